/- Parts of the proof: GC4, GC5a, GC5b, GC6, GC7, GivenC, Xx9, Xx10, Xx11, Xx12, Xx13. -/
import Derived.Test.YthngpkfckhmiiaaGreatDoorZBack1
section
set_option linter.unusedVariables false
set_option linter.unusedSimpArgs false
namespace Go.Proofs.YthngpkfckhmiiaaGreatDoor.X
open Go.RowKit Go.Proofs.YthngpkfckhmiiaaGreatDoorW.PrintWords Go.Proofs.YthngpkfckhmiiaaGreatDoor.Sl
theorem rc_all {W : World} {g : Nat} {s : Int} {p : Bool} {A N ge le : Int} (h : W.heap[g]? = some (ruleCells s p A N ge le)) :
  W.cell? ⟨g, 0, none⟩ = some (.int .i64 s) ∧ W.cell? ⟨g, 1, none⟩ = some (.bool p) ∧ W.cell? ⟨g, 2, none⟩ = some (.int .u32 A) ∧ W.cell? ⟨g, 3, none⟩ = some (.int .i64 N) ∧ W.cell? ⟨g, 4, none⟩ = some (.int .i64 ge) ∧ W.cell? ⟨g, 5, none⟩ = some (.int .i64 le)
  ∧ W.frozen? ⟨g, 0, none⟩ = false ∧ W.frozen? ⟨g, 1, none⟩ = false ∧ W.frozen? ⟨g, 2, none⟩ = false ∧ W.frozen? ⟨g, 3, none⟩ = false ∧ W.frozen? ⟨g, 4, none⟩ = false ∧ W.frozen? ⟨g, 5, none⟩ = false := by
 simp [World.cell?, World.frozen?, ruleCells, h]
theorem al_mine (W : World) (s : Int) (p : Bool) (A N ge le : Int) : (W.alloc (ruleCells s p A N ge le)).heap[W.heap.size]? = some (ruleCells s p A N ge le) := by
 show (W.heap.push _)[_]? = _
 simp
theorem set6 {W : World} {g : Nat} {s s' : Int} {p p' : Bool} {A A' N N' ge ge' le le' : Int} (h : W.heap[g]? = some (ruleCells s p A N ge le)) :
  ((((((W.setCell ⟨g, 0, none⟩ (.int .i64 s')).setCell ⟨g, 1, none⟩ (.bool p')).setCell ⟨g, 2, none⟩ (.int .u32 A')).setCell ⟨g, 3, none⟩ (.int .i64 N')).setCell ⟨g, 4, none⟩ (.int .i64 ge')).setCell ⟨g, 5, none⟩ (.int .i64 le')).heap[g]? = some (ruleCells s' p' A' N' ge' le') := by
 simp [World.setCell, ruleCells, Array.getElem?_modify] at h ⊢
 simp [h]
def Words (W w' : World) (xs : List ByteArray) : Prop := Below W.heap.size W w' ∧ W.heap.size < w'.heap.size ∧ ∀ j s, xs[j]? = some s → w'.cell? ⟨W.heap.size, j, none⟩ = some (.string s)
set_option maxRecDepth 20000 in
set_option maxHeartbeats 1000000 in
theorem parse_a (a0 : ByteArray) (xs : List ByteArray) (w : World) (hS : ∀ W : World, Below w.heap.size w W → Calls Tryz.prog 30 #[.string a0, .string ⟨#[32]⟩] W fun e w' => e = .returned (.slice (some ⟨W.heap.size, 0, none⟩) xs.length xs.length) ∧ Words W w' xs) (hl : (xs.length : Int) < 3) :
  Calls Tryz.prog 8 #[.string a0] w fun e w' => e = .returned (.tuple #[.agg #[.int .i64 0, .bool false, .int .u32 0, .int .i64 0, .int .i64 0, .int .i64 0], .int .i64 3]) ∧ Below w.heap.size w w' := by
 go_enter Tryz.func8, Tryz.ntmps8
 go_wp2_with (go_at_call 30; refine (hS _ (be_al _ (Below.refl _ _) (Nat.le_refl _))).mono ?_; rintro e w' ⟨rfl, hb, qs, qw⟩; clear qw; obtain ⟨r0, r1, r2, r3, r4, r5, f0, f1, f2, f3, f4, f5⟩ := rc_all (be_keep hb (al_mine w 0 false 0 0 0 0)); have hg2 := be_keep hb (al_mine w 0 false 0 0 0 0))
 all_goals refine bodyPost_ret (results_ct rfl _ _ w.heap.size 26 _ (0, 0) _ rfl (set6 hg2) Tryz.underlying26 rfl rfl) rfl ⟨rfl, ?_⟩
 all_goals (repeat with_reducible first | exact Below.refl _ _ | apply Below.drew | refine be_al _ ?_ (Nat.le_refl _) | refine be_set _ _ ?_ (Nat.le_refl _) | refine be_go hb ?_ (Nat.le_refl _))
set_option maxRecDepth 20000 in
set_option maxHeartbeats 1000000 in
theorem parse_n (a0 : ByteArray) (xs : List ByteArray) (w : World) (s0 s1 s2 : ByteArray) (m : Int) (hx0 : xs[0]? = some s0) (hx1 : xs[1]? = some s1) (hx2 : xs[2]? = some s2)
  (hS : ∀ W : World, Below w.heap.size w W → Calls Tryz.prog 30 #[.string a0, .string ⟨#[32]⟩] W fun e w' => e = .returned (.slice (some ⟨W.heap.size, 0, none⟩) xs.length xs.length) ∧ Words W w' xs) (hl : decide ((xs.length : Int) < 3) = false)
  (hn : plist_number.f s0 = some m) (hm : (m == 0) = true) :
  Calls Tryz.prog 8 #[.string a0] w fun e w' => e = .returned (.tuple #[.agg #[.int .i64 0, .bool false, .int .u32 0, .int .i64 0, .int .i64 0, .int .i64 0], .int .i64 3]) ∧ Below w.heap.size w w' := by
 have h0 : 0 < (xs.length : Int) := by simp at hl; omega
 have h1 : 1 < (xs.length : Int) := by simp at hl; omega
 have h2 : 0 < xs.length := by omega
 have h3 : 1 < xs.length := by omega
 have h4 : ¬ (xs.length : Int) < 3 := by simp at hl; omega
 have h5 : 2 < (xs.length : Int) := by simp at hl; omega
 have h6 : 2 < xs.length := by omega
 have hc := fun W => plist_number.calls s0 m W hn
 clear hn
 go_enter Tryz.func8, Tryz.ntmps8
 go_wp2_with (first | (go_at_call 30; refine (hS _ (be_al _ (Below.refl _ _) (Nat.le_refl _))).mono ?_; rintro e w' ⟨rfl, hb, qs, qw⟩; replace qs : w.heap.size + 1 < w'.heap.size := (by simpa using qs); have q0 : w'.cell? ⟨w.heap.size + 1, 0, none⟩ = some (.string s0) := (by simpa using qw 0 s0 hx0); have q1 : w'.cell? ⟨w.heap.size + 1, 1, none⟩ = some (.string s1) := (by simpa using qw 1 s1 hx1); have q2 : w'.cell? ⟨w.heap.size + 1, 2, none⟩ = some (.string s2) := (by simpa using qw 2 s2 hx2); have hg := be_keep hb (al_mine w 0 false 0 0 0 0); have QW := Aside0.mk (show ∀ (j : Nat) (s : ByteArray), xs[j]? = some s → w'.cell? ⟨w.heap.size + 1, j, none⟩ = some (.string s) from fun j s hj => by simpa using qw j s hj); clear qw) | (go_at_call 31; refine (hc _).mono ?_; rintro e w2 ⟨rfl, hb2⟩; have z0 := be_cell hb2 q0; have z1 := be_cell hb2 q1; have z2 := be_cell hb2 q2; have hg2 := be_keep hb2 hg; obtain ⟨r0, r1, r2, r3, r4, r5, f0, f1, f2, f3, f4, f5⟩ := rc_all hg2))
 all_goals refine bodyPost_ret (results_ct rfl _ _ w.heap.size 26 _ (0, 0) _ rfl (set6 hg2) Tryz.underlying26 rfl rfl) rfl ⟨rfl, ?_⟩
 all_goals (repeat with_reducible first | exact Below.refl _ _ | apply Below.drew | refine be_al _ ?_ (Nat.le_refl _) | refine be_set _ _ ?_ (Nat.le_refl _) | refine be_go hb2 ?_ (Nat.le_refl _) | refine be_go hb ?_ (Nat.le_refl _))
set_option maxRecDepth 20000 in
set_option maxHeartbeats 1000000 in
theorem parse_b (a0 : ByteArray) (xs : List ByteArray) (w : World) (s0 s1 s2 : ByteArray) (m : Int) (hx0 : xs[0]? = some s0) (hx1 : xs[1]? = some s1) (hx2 : xs[2]? = some s2)
  (hS : ∀ W : World, Below w.heap.size w W → Calls Tryz.prog 30 #[.string a0, .string ⟨#[32]⟩] W fun e w' => e = .returned (.slice (some ⟨W.heap.size, 0, none⟩) xs.length xs.length) ∧ Words W w' xs) (hl : decide ((xs.length : Int) < 3) = false)
  (hn : plist_number.f s0 = some m) (hm : (m == 0) = false) (hs1 : (s1.toList == [112, 101, 114, 109, 105, 116]) = false) (hs2 : (s1.toList == [100, 101, 110, 121]) = false) :
  Calls Tryz.prog 8 #[.string a0] w fun e w' => e = .returned (.tuple #[.agg #[.int .i64 0, .bool false, .int .u32 0, .int .i64 0, .int .i64 0, .int .i64 0], .int .i64 3]) ∧ Below w.heap.size w w' := by
 have h0 : 0 < (xs.length : Int) := by simp at hl; omega
 have h1 : 1 < (xs.length : Int) := by simp at hl; omega
 have h2 : 0 < xs.length := by omega
 have h3 : 1 < xs.length := by omega
 have h4 : ¬ (xs.length : Int) < 3 := by simp at hl; omega
 have h5 : 2 < (xs.length : Int) := by simp at hl; omega
 have h6 : 2 < xs.length := by omega
 have hc := fun W => plist_number.calls s0 m W hn
 clear hn
 go_enter Tryz.func8, Tryz.ntmps8
 go_wp2_with (first | (go_at_call 30; refine (hS _ (be_al _ (Below.refl _ _) (Nat.le_refl _))).mono ?_; rintro e w' ⟨rfl, hb, qs, qw⟩; replace qs : w.heap.size + 1 < w'.heap.size := (by simpa using qs); have q0 : w'.cell? ⟨w.heap.size + 1, 0, none⟩ = some (.string s0) := (by simpa using qw 0 s0 hx0); have q1 : w'.cell? ⟨w.heap.size + 1, 1, none⟩ = some (.string s1) := (by simpa using qw 1 s1 hx1); have q2 : w'.cell? ⟨w.heap.size + 1, 2, none⟩ = some (.string s2) := (by simpa using qw 2 s2 hx2); have hg := be_keep hb (al_mine w 0 false 0 0 0 0); have QW := Aside0.mk (show ∀ (j : Nat) (s : ByteArray), xs[j]? = some s → w'.cell? ⟨w.heap.size + 1, j, none⟩ = some (.string s) from fun j s hj => by simpa using qw j s hj); clear qw) | (go_at_call 31; refine (hc _).mono ?_; rintro e w2 ⟨rfl, hb2⟩; have z0 := be_cell hb2 q0; have z1 := be_cell hb2 q1; have z2 := be_cell hb2 q2; have hg2 := be_keep hb2 hg; obtain ⟨r0, r1, r2, r3, r4, r5, f0, f1, f2, f3, f4, f5⟩ := rc_all hg2))
 all_goals refine bodyPost_ret (results_ct rfl _ _ w.heap.size 26 _ (0, 0) _ rfl (set6 hg2) Tryz.underlying26 rfl rfl) rfl ⟨rfl, ?_⟩
 all_goals (repeat with_reducible first | exact Below.refl _ _ | apply Below.drew | refine be_al _ ?_ (Nat.le_refl _) | refine be_set _ _ ?_ (Nat.le_refl _) | refine be_go hb2 ?_ (Nat.le_refl _) | refine be_go hb ?_ (Nat.le_refl _))
theorem set6_far {W : World} {g g' : Nat} {v0 v1 v2 v3 v4 v5 : Value} (h : g' ≠ g) :
  ((((((W.setCell ⟨g, 0, none⟩ v0).setCell ⟨g, 1, none⟩ v1).setCell ⟨g, 2, none⟩ v2).setCell ⟨g, 3, none⟩ v3).setCell ⟨g, 4, none⟩ v4).setCell ⟨g, 5, none⟩ v5).heap[g']? = W.heap[g']? := by
 have h' : g ≠ g' := fun e => h e.symm
 simp [World.setCell, Array.getElem?_modify, h']
theorem set6_below {w W : World} {B g : Nat} {v0 v1 v2 v3 v4 v5 : Value} (h : Below B w W) (hg : B ≤ g) :
  Below B w ((((((W.setCell ⟨g, 0, none⟩ v0).setCell ⟨g, 1, none⟩ v1).setCell ⟨g, 2, none⟩ v2).setCell ⟨g, 3, none⟩ v3).setCell ⟨g, 4, none⟩ v4).setCell ⟨g, 5, none⟩ v5) :=
 be_set _ _ (be_set _ _ (be_set _ _ (be_set _ _ (be_set _ _ (be_set _ _ h hg) hg) hg) hg) hg) hg
theorem mdf {w w' w2 w3 : World} {A N : Int} {s0 s1 : ByteArray} {xs : List ByteArray} (hb : Below (w.alloc (ruleCells 0 false 0 0 0 0)).heap.size (w.alloc (ruleCells 0 false 0 0 0 0)) w') (hb2 : Below w'.heap.size w' w2) (hb3 : Below w2.heap.size w2 w3) (z0 : w2.cell? ⟨w.heap.size + 1, 0, none⟩ = some (.string s0)) (z1 : w2.cell? ⟨w.heap.size + 1, 1, none⟩ = some (.string s1)) (hg3 : w3.heap[w.heap.size]? = some (ruleCells 0 false 0 0 0 0)) (qs : w.heap.size + 1 < w'.heap.size) (QW : Aside0 (∀ (j : Nat) (s : ByteArray), xs[j]? = some s → w'.cell? ⟨w.heap.size + 1, j, none⟩ = some (.string s))) :
  ∃ w5, (w3.alloc (.cells #[.int .u32 A, .int .i64 N] 24)) = w5 ∧ w5.cell? ⟨w3.heap.size, 0, none⟩ = some (.int .u32 A) ∧ w5.cell? ⟨w3.heap.size, 1, none⟩ = some (.int .i64 N) ∧ w5.cell? ⟨w.heap.size + 1, 0, none⟩ = some (.string s0) ∧ w5.cell? ⟨w.heap.size + 1, 1, none⟩ = some (.string s1) ∧ w5.heap[w.heap.size]? = some (ruleCells 0 false 0 0 0 0) ∧ Below w.heap.size w w5 ∧ w.heap.size + 1 < w5.heap.size ∧ w3.heap.size < w5.heap.size ∧ Aside0 (∀ (j : Nat) (s : ByteArray), xs[j]? = some s → w5.cell? ⟨w.heap.size + 1, j, none⟩ = some (.string s)) ∧ w.heap.size + 1 ≠ w5.heap.size ∧ w5.heap.size ≠ w.heap.size + 1 ∧ w3.heap.size ≠ w5.heap.size ∧ w5.heap.size ≠ w3.heap.size := by
 have v2 : (w3.alloc (.cells #[.int .u32 A, .int .i64 N] 24)).cell? ⟨w3.heap.size, 0, none⟩ = some (.int .u32 A) := (al_new rfl).trans rfl
 have v3 : (w3.alloc (.cells #[.int .u32 A, .int .i64 N] 24)).cell? ⟨w3.heap.size, 1, none⟩ = some (.int .i64 N) := (al_new rfl).trans rfl
 have y0 := be_cell hb3 z0
 have y1 := be_cell hb3 z1
 have v0 := (World.cell?_alloc_some w3 _ (.cells #[.int .u32 A, .int .i64 N] 24) (by rw [y0]; rfl)).trans y0
 have v1 := (World.cell?_alloc_some w3 _ (.cells #[.int .u32 A, .int .i64 N] 24) (by rw [y1]; rfl)).trans y1
 have vg := al_keep (.cells #[.int .u32 A, .int .i64 N] 24) hg3
 have vb : Below w.heap.size w (w3.alloc (.cells #[.int .u32 A, .int .i64 N] 24)) := be_al _ (be_go hb3 (be_go hb2 (be_go hb (be_al _ (Below.refl _ _) (Nat.le_refl _)) (Nat.le_refl _)) (Nat.le_refl _)) (Nat.le_refl _)) (Nat.le_refl _)
 have vq : Below w'.heap.size w' (w3.alloc (.cells #[.int .u32 A, .int .i64 N] 24)) := ((hb2.trans (hb3.mono hb2.size)).alloc (Nat.le_trans hb2.size hb3.size) _)
 have vs1 : w.heap.size + 1 < (w3.alloc (.cells #[.int .u32 A, .int .i64 N] 24)).heap.size := Nat.lt_of_lt_of_le qs vq.size
 have vs2 : w3.heap.size < (w3.alloc (.cells #[.int .u32 A, .int .i64 N] 24)).heap.size := by simp
 exact ⟨_, rfl, v2, v3, v0, v1, vg, vb, vs1, vs2, Aside0.mk (fun j s hj => be_cell vq (QW.out j s hj)), Nat.ne_of_lt vs1, (Nat.ne_of_lt vs1).symm, Nat.ne_of_lt vs2, (Nat.ne_of_lt vs2).symm⟩
theorem paf {w w4 w5 : World} {m A N : Int} {p : Bool} {xs : List ByteArray} (h54 : Below w5.heap.size w5 w4) (vg : w5.heap[w.heap.size]? = some (ruleCells 0 false 0 0 0 0)) (vb : Below w.heap.size w w5) (QV : Aside0 (∀ (j : Nat) (s : ByteArray), xs[j]? = some s → w5.cell? ⟨w.heap.size + 1, j, none⟩ = some (.string s))) (js : w.heap.size + 1 < w4.heap.size) :
  ∃ w6, w4.alloc (.cells #[.int .i64 m, .bool p, .int .u32 A, .int .i64 N, .int .i64 0, .int .i64 0] 26) = w6 ∧ w6.heap[w4.heap.size]? = some (ruleCells m p A N 0 0) ∧ w6.heap[w.heap.size]? = some (ruleCells 0 false 0 0 0 0) ∧ Aside0 (∀ (j : Nat) (s : ByteArray), xs[j]? = some s → w6.cell? ⟨w.heap.size + 1, j, none⟩ = some (.string s)) ∧ Below w.heap.size w w6 ∧ w4.heap.size < w6.heap.size ∧ w.heap.size + 1 < w4.heap.size ∧ w.heap.size + 1 < w6.heap.size := by
 have gs : w4.heap.size < (w4.alloc (.cells #[.int .i64 m, .bool p, .int .u32 A, .int .i64 N, .int .i64 0, .int .i64 0] 26)).heap.size := by simp
 exact ⟨_, rfl, al_mine w4 m p A N 0 0, al_keep _ (be_keep h54 vg), Aside0.mk fun j s hj => (World.cell?_alloc_lt w4 _ ⟨w.heap.size + 1, j, none⟩ js).trans (be_cell h54 (QV.out j s hj)), be_al _ (be_go h54 vb (Nat.le_refl _)) (Nat.le_refl _), gs, js, Nat.lt_trans js gs⟩
theorem pbf {w w4 w5 : World} {m A N : Int} {p : Bool} {xs : List ByteArray} (hgx0 : w4.heap[w5.heap.size]? = some (ruleCells 0 false 0 0 0 0)) (h54 : Below w5.heap.size w5 w4) (vg : w5.heap[w.heap.size]? = some (ruleCells 0 false 0 0 0 0)) (vb : Below w.heap.size w w5) (QV : Aside0 (∀ (j : Nat) (s : ByteArray), xs[j]? = some s → w5.cell? ⟨w.heap.size + 1, j, none⟩ = some (.string s))) (vs1 : w.heap.size + 1 < w5.heap.size) :
  ∃ w6, ((((((w4.setCell ⟨w5.heap.size, 0, none⟩ (.int .i64 m)).setCell ⟨w5.heap.size, 1, none⟩ (.bool p)).setCell ⟨w5.heap.size, 2, none⟩ (.int .u32 A)).setCell ⟨w5.heap.size, 3, none⟩ (.int .i64 N)).setCell ⟨w5.heap.size, 4, none⟩ (.int .i64 0)).setCell ⟨w5.heap.size, 5, none⟩ (.int .i64 0)) = w6 ∧ w6.heap[w5.heap.size]? = some (ruleCells m p A N 0 0) ∧ w6.heap[w.heap.size]? = some (ruleCells 0 false 0 0 0 0) ∧ Aside0 (∀ (j : Nat) (s : ByteArray), xs[j]? = some s → w6.cell? ⟨w.heap.size + 1, j, none⟩ = some (.string s)) ∧ Below w.heap.size w w6 ∧ w5.heap.size < w6.heap.size ∧ w.heap.size + 1 < w5.heap.size ∧ w.heap.size + 1 < w6.heap.size := by
 have gs : w5.heap.size < (((((((w4.setCell ⟨w5.heap.size, 0, none⟩ (.int .i64 m)).setCell ⟨w5.heap.size, 1, none⟩ (.bool p)).setCell ⟨w5.heap.size, 2, none⟩ (.int .u32 A)).setCell ⟨w5.heap.size, 3, none⟩ (.int .i64 N)).setCell ⟨w5.heap.size, 4, none⟩ (.int .i64 0)).setCell ⟨w5.heap.size, 5, none⟩ (.int .i64 0))).heap.size := by have q := blk_lt hgx0; simpa [World.setCell] using q
 exact ⟨_, rfl, set6 hgx0, (set6_far (by omega)).trans (be_keep h54 vg), Aside0.mk fun j s hj => (World.cell?_of_block (set6_far (by show w.heap.size + 1 ≠ w5.heap.size; omega))).trans (be_cell h54 (QV.out j s hj)), set6_below (be_go h54 vb (Nat.le_refl _)) (by omega), gs, vs1, Nat.lt_trans vs1 gs⟩
set_option maxRecDepth 20000 in
set_option maxHeartbeats 4000000 in
theorem parse_c_true (a0 : ByteArray) (xs : List ByteArray) (w : World) (s0 s1 s2 : ByteArray) (m : Int) (hx0 : xs[0]? = some s0) (hx1 : xs[1]? = some s1) (hx2 : xs[2]? = some s2)
  (hS : ∀ W : World, Below w.heap.size w W → Calls Tryz.prog 30 #[.string a0, .string ⟨#[32]⟩] W fun e w' => e = .returned (.slice (some ⟨W.heap.size, 0, none⟩) xs.length xs.length) ∧ Words W w' xs) (hl : decide ((xs.length : Int) < 3) = false)
  (hn : plist_number.f s0 = some m) (hm : (m == 0) = false) (hs1 : (s1.toList == [112, 101, 114, 109, 105, 116]) = true)  (A N e3 : Int)
  (hA : ∀ W : World, Below w.heap.size w W → Calls Tryz.prog 32 #[.string s2] W fun e w' => e = .returned (.tuple #[.agg #[.int .u32 A, .int .i64 N], .int .i64 e3]) ∧ Below W.heap.size W w') (he : (e3 == 3) = true) :
  Calls Tryz.prog 8 #[.string a0] w fun e w' => e = .returned (.tuple #[.agg #[.int .i64 0, .bool false, .int .u32 0, .int .i64 0, .int .i64 0, .int .i64 0], .int .i64 3]) ∧ Below w.heap.size w w' := by
 have h0 : 0 < (xs.length : Int) := by simp at hl; omega
 have h1 : 1 < (xs.length : Int) := by simp at hl; omega
 have h2 : 0 < xs.length := by omega
 have h3 : 1 < xs.length := by omega
 have h4 : ¬ (xs.length : Int) < 3 := by simp at hl; omega
 have h5 : 2 < (xs.length : Int) := by simp at hl; omega
 have h6 : 2 < xs.length := by omega
 have hc := fun W => plist_number.calls s0 m W hn
 clear hn
 go_enter Tryz.func8, Tryz.ntmps8
 go_wp2_with (first | (go_at_call 30; refine (hS _ (be_al _ (Below.refl _ _) (Nat.le_refl _))).mono ?_; rintro e w' ⟨rfl, hb, qs, qw⟩; replace qs : w.heap.size + 1 < w'.heap.size := (by simpa using qs); have q0 : w'.cell? ⟨w.heap.size + 1, 0, none⟩ = some (.string s0) := (by simpa using qw 0 s0 hx0); have q1 : w'.cell? ⟨w.heap.size + 1, 1, none⟩ = some (.string s1) := (by simpa using qw 1 s1 hx1); have q2 : w'.cell? ⟨w.heap.size + 1, 2, none⟩ = some (.string s2) := (by simpa using qw 2 s2 hx2); have hg := be_keep hb (al_mine w 0 false 0 0 0 0); have QW := Aside0.mk (show ∀ (j : Nat) (s : ByteArray), xs[j]? = some s → w'.cell? ⟨w.heap.size + 1, j, none⟩ = some (.string s) from fun j s hj => by simpa using qw j s hj); clear qw) | (go_at_call 31; refine (hc _).mono ?_; rintro e w2 ⟨rfl, hb2⟩; have z0 := be_cell hb2 q0; have z1 := be_cell hb2 q1; have z2 := be_cell hb2 q2; have hg2 := be_keep hb2 hg; obtain ⟨r0, r1, r2, r3, r4, r5, f0, f1, f2, f3, f4, f5⟩ := rc_all hg2) | (go_at_call 32; refine (hA _ (be_go hb2 (be_go hb (be_al _ (Below.refl _ _) (Nat.le_refl _)) (Nat.le_refl _)) (Nat.le_refl _))).mono ?_; rintro e w3 ⟨rfl, hb3⟩; have hg3 := be_keep hb3 hg2))
 all_goals obtain ⟨w5, e5, v2, v3, v0, v1, vg, vb, vs1, vs2, QV, vn1, vn2, vn3, vn4⟩ := mdf (A := A) (N := N) hb hb2 hb3 z0 z1 hg3 qs QW
 all_goals clear hb hb2 hb3 z0 z1 z2 hg hg2 hg3 q0 q1 q2 r0 r1 r2 r3 r4 r5 f0 f1 f2 f3 f4 f5 QW
 all_goals rw [e5]
 all_goals clear e5
 all_goals go_region_held3 (fun W => W.cell? ⟨w.heap.size + 1, 0, none⟩ = some (.string s0) ∧ W.cell? ⟨w.heap.size + 1, 1, none⟩ = some (.string s1) ∧ W.cell? ⟨w3.heap.size, 0, none⟩ = some (.int .u32 A) ∧ W.cell? ⟨w3.heap.size, 1, none⟩ = some (.int .i64 N)) (go_keep) (first | (go_at_call 31; refine (hc _).mono ?_; rintro e w4 ⟨rfl, hb4⟩; (first | (have ordA : True := trivial; have h54 : Below w5.heap.size w5 w4 := ((Below.refl _ _).drew).trans hb4) | (have ordB : True := trivial; have h54 : Below w5.heap.size w5 w4 := (((Below.refl _ _).drew).alloc (Nat.le_refl _) _).trans (hb4.mono (by simp)); have hgx0 := (hb4.block w5.heap.size (by simp)).trans (al_mine w5.drew 0 false 0 0 0 0); obtain ⟨x0, x1, x2, x3, x4, x5, fx0, fx1, fx2, fx3, fx4, fx5⟩ := rc_all hgx0)); have j0 := be_cell h54 v0; have j1 := be_cell h54 v1; have j2 := be_cell h54 v2; have j3 := be_cell h54 v3; have js := Nat.lt_of_lt_of_le vs1 h54.size; have jt := Nat.lt_of_lt_of_le vs2 h54.size; have jz := h54.size))
 ·have _t := ordA
  obtain ⟨w6, e6, HX, HG, QW, B6, gs, gw, bs⟩ := paf (m := m) (p := true) (A := A) (N := N) h54 vg vb QV js
  clear ordA
  clear h54 vg vb hb4 v0 v1 v2 v3 vs1 vs2 vn1 vn2 vn3 vn4 QV j0 j1 j2 j3 js jt jz
  rw [e6]
  clear e6
  generalize w4.heap.size = gx at *
  obtain ⟨r0, r1, r2, r3, r4, r5, f0, f1, f2, f3, f4, f5⟩ := rc_all HG
  go_wp2
  exact bodyPost_ret (results_ct rfl _ _ w.heap.size 26 _ (0, 0) _ rfl (set6 HG) Tryz.underlying26 rfl rfl) rfl ⟨rfl, set6_below B6 (Nat.le_refl _)⟩
 ·have _t := ordB
  obtain ⟨w6, e6, HX, HG, QW, B6, gs, gw, bs⟩ := pbf (m := m) (p := true) (A := A) (N := N) hgx0 h54 vg vb QV vs1
  clear ordB hgx0 x0 x1 x2 x3 x4 x5 fx0 fx1 fx2 fx3 fx4 fx5
  clear h54 vg vb hb4 v0 v1 v2 v3 vs1 vs2 vn1 vn2 vn3 vn4 QV j0 j1 j2 j3 js jt jz
  rw [e6]
  clear e6
  generalize w5.heap.size = gx at *
  obtain ⟨r0, r1, r2, r3, r4, r5, f0, f1, f2, f3, f4, f5⟩ := rc_all HG
  go_wp2
  exact bodyPost_ret (results_ct rfl _ _ w.heap.size 26 _ (0, 0) _ rfl (set6 HG) Tryz.underlying26 rfl rfl) rfl ⟨rfl, set6_below B6 (Nat.le_refl _)⟩
set_option maxRecDepth 20000 in
set_option maxHeartbeats 4000000 in
theorem parse_c_false (a0 : ByteArray) (xs : List ByteArray) (w : World) (s0 s1 s2 : ByteArray) (m : Int) (hx0 : xs[0]? = some s0) (hx1 : xs[1]? = some s1) (hx2 : xs[2]? = some s2)
  (hS : ∀ W : World, Below w.heap.size w W → Calls Tryz.prog 30 #[.string a0, .string ⟨#[32]⟩] W fun e w' => e = .returned (.slice (some ⟨W.heap.size, 0, none⟩) xs.length xs.length) ∧ Words W w' xs) (hl : decide ((xs.length : Int) < 3) = false)
  (hn : plist_number.f s0 = some m) (hm : (m == 0) = false) (hs1 : (s1.toList == [112, 101, 114, 109, 105, 116]) = false) (hs3 : (s1.toList == [100, 101, 110, 121]) = true) (A N e3 : Int)
  (hA : ∀ W : World, Below w.heap.size w W → Calls Tryz.prog 32 #[.string s2] W fun e w' => e = .returned (.tuple #[.agg #[.int .u32 A, .int .i64 N], .int .i64 e3]) ∧ Below W.heap.size W w') (he : (e3 == 3) = true) :
  Calls Tryz.prog 8 #[.string a0] w fun e w' => e = .returned (.tuple #[.agg #[.int .i64 0, .bool false, .int .u32 0, .int .i64 0, .int .i64 0, .int .i64 0], .int .i64 3]) ∧ Below w.heap.size w w' := by
 have h0 : 0 < (xs.length : Int) := by simp at hl; omega
 have h1 : 1 < (xs.length : Int) := by simp at hl; omega
 have h2 : 0 < xs.length := by omega
 have h3 : 1 < xs.length := by omega
 have h4 : ¬ (xs.length : Int) < 3 := by simp at hl; omega
 have h5 : 2 < (xs.length : Int) := by simp at hl; omega
 have h6 : 2 < xs.length := by omega
 have hc := fun W => plist_number.calls s0 m W hn
 clear hn
 go_enter Tryz.func8, Tryz.ntmps8
 go_wp2_with (first | (go_at_call 30; refine (hS _ (be_al _ (Below.refl _ _) (Nat.le_refl _))).mono ?_; rintro e w' ⟨rfl, hb, qs, qw⟩; replace qs : w.heap.size + 1 < w'.heap.size := (by simpa using qs); have q0 : w'.cell? ⟨w.heap.size + 1, 0, none⟩ = some (.string s0) := (by simpa using qw 0 s0 hx0); have q1 : w'.cell? ⟨w.heap.size + 1, 1, none⟩ = some (.string s1) := (by simpa using qw 1 s1 hx1); have q2 : w'.cell? ⟨w.heap.size + 1, 2, none⟩ = some (.string s2) := (by simpa using qw 2 s2 hx2); have hg := be_keep hb (al_mine w 0 false 0 0 0 0); have QW := Aside0.mk (show ∀ (j : Nat) (s : ByteArray), xs[j]? = some s → w'.cell? ⟨w.heap.size + 1, j, none⟩ = some (.string s) from fun j s hj => by simpa using qw j s hj); clear qw) | (go_at_call 31; refine (hc _).mono ?_; rintro e w2 ⟨rfl, hb2⟩; have z0 := be_cell hb2 q0; have z1 := be_cell hb2 q1; have z2 := be_cell hb2 q2; have hg2 := be_keep hb2 hg; obtain ⟨r0, r1, r2, r3, r4, r5, f0, f1, f2, f3, f4, f5⟩ := rc_all hg2) | (go_at_call 32; refine (hA _ (be_go hb2 (be_go hb (be_al _ (Below.refl _ _) (Nat.le_refl _)) (Nat.le_refl _)) (Nat.le_refl _))).mono ?_; rintro e w3 ⟨rfl, hb3⟩; have hg3 := be_keep hb3 hg2))
 all_goals obtain ⟨w5, e5, v2, v3, v0, v1, vg, vb, vs1, vs2, QV, vn1, vn2, vn3, vn4⟩ := mdf (A := A) (N := N) hb hb2 hb3 z0 z1 hg3 qs QW
 all_goals clear hb hb2 hb3 z0 z1 z2 hg hg2 hg3 q0 q1 q2 r0 r1 r2 r3 r4 r5 f0 f1 f2 f3 f4 f5 QW
 all_goals rw [e5]
 all_goals clear e5
 all_goals go_region_held3 (fun W => W.cell? ⟨w.heap.size + 1, 0, none⟩ = some (.string s0) ∧ W.cell? ⟨w.heap.size + 1, 1, none⟩ = some (.string s1) ∧ W.cell? ⟨w3.heap.size, 0, none⟩ = some (.int .u32 A) ∧ W.cell? ⟨w3.heap.size, 1, none⟩ = some (.int .i64 N)) (go_keep) (first | (go_at_call 31; refine (hc _).mono ?_; rintro e w4 ⟨rfl, hb4⟩; (first | (have ordA : True := trivial; have h54 : Below w5.heap.size w5 w4 := ((Below.refl _ _).drew).trans hb4) | (have ordB : True := trivial; have h54 : Below w5.heap.size w5 w4 := (((Below.refl _ _).drew).alloc (Nat.le_refl _) _).trans (hb4.mono (by simp)); have hgx0 := (hb4.block w5.heap.size (by simp)).trans (al_mine w5.drew 0 false 0 0 0 0); obtain ⟨x0, x1, x2, x3, x4, x5, fx0, fx1, fx2, fx3, fx4, fx5⟩ := rc_all hgx0)); have j0 := be_cell h54 v0; have j1 := be_cell h54 v1; have j2 := be_cell h54 v2; have j3 := be_cell h54 v3; have js := Nat.lt_of_lt_of_le vs1 h54.size; have jt := Nat.lt_of_lt_of_le vs2 h54.size; have jz := h54.size))
 ·have _t := ordA
  obtain ⟨w6, e6, HX, HG, QW, B6, gs, gw, bs⟩ := paf (m := m) (p := false) (A := A) (N := N) h54 vg vb QV js
  clear ordA
  clear h54 vg vb hb4 v0 v1 v2 v3 vs1 vs2 vn1 vn2 vn3 vn4 QV j0 j1 j2 j3 js jt jz
  rw [e6]
  clear e6
  generalize w4.heap.size = gx at *
  obtain ⟨r0, r1, r2, r3, r4, r5, f0, f1, f2, f3, f4, f5⟩ := rc_all HG
  go_wp2
  exact bodyPost_ret (results_ct rfl _ _ w.heap.size 26 _ (0, 0) _ rfl (set6 HG) Tryz.underlying26 rfl rfl) rfl ⟨rfl, set6_below B6 (Nat.le_refl _)⟩
 ·have _t := ordB
  obtain ⟨w6, e6, HX, HG, QW, B6, gs, gw, bs⟩ := pbf (m := m) (p := false) (A := A) (N := N) hgx0 h54 vg vb QV vs1
  clear ordB hgx0 x0 x1 x2 x3 x4 x5 fx0 fx1 fx2 fx3 fx4 fx5
  clear h54 vg vb hb4 v0 v1 v2 v3 vs1 vs2 vn1 vn2 vn3 vn4 QV j0 j1 j2 j3 js jt jz
  rw [e6]
  clear e6
  generalize w5.heap.size = gx at *
  obtain ⟨r0, r1, r2, r3, r4, r5, f0, f1, f2, f3, f4, f5⟩ := rc_all HG
  go_wp2
  exact bodyPost_ret (results_ct rfl _ _ w.heap.size 26 _ (0, 0) _ rfl (set6 HG) Tryz.underlying26 rfl rfl) rfl ⟨rfl, set6_below B6 (Nat.le_refl _)⟩
end Go.Proofs.YthngpkfckhmiiaaGreatDoor.X
end
section
set_option linter.unusedVariables false
set_option linter.unusedSimpArgs false
namespace Go.Proofs.YthngpkfckhmiiaaGreatDoor.X
open Go.RowKit Go.Proofs.YthngpkfckhmiiaaGreatDoorW.PrintWords Go.Proofs.YthngpkfckhmiiaaGreatDoor.Sl
set_option maxRecDepth 20000 in
set_option maxHeartbeats 4000000 in
theorem parse_l3_true (a0 : ByteArray) (xs : List ByteArray) (w : World) (s0 s1 s2 : ByteArray) (m : Int) (hx0 : xs[0]? = some s0) (hx1 : xs[1]? = some s1) (hx2 : xs[2]? = some s2)
  (hS : ∀ W : World, Below w.heap.size w W → Calls Tryz.prog 30 #[.string a0, .string ⟨#[32]⟩] W fun e w' => e = .returned (.slice (some ⟨W.heap.size, 0, none⟩) xs.length xs.length) ∧ Words W w' xs) (hl : decide ((xs.length : Int) < 3) = false)
  (hn : plist_number.f s0 = some m) (hm : (m == 0) = false) (hs1 : (s1.toList == [112, 101, 114, 109, 105, 116]) = true)  (A N e3 : Int)
  (hA : ∀ W : World, Below w.heap.size w W → Calls Tryz.prog 32 #[.string s2] W fun e w' => e = .returned (.tuple #[.agg #[.int .u32 A, .int .i64 N], .int .i64 e3]) ∧ Below W.heap.size W w') (he : (e3 == 3) = false) (ge le : Int) (hx3 : xs.length = 3) (hL : ∀ (W : World) (gx : Nat), W.heap[gx]? = some (ruleCells m true A N 0 0) → (∀ (j : Nat) (s : ByteArray), xs[j]? = some s → W.cell? ⟨w.heap.size + 1, j, none⟩ = some (.string s)) → w.heap.size + 1 < gx →
   Calls Tryz.prog 33 #[.pointer (some ⟨gx, 0, none⟩), .slice (some ⟨w.heap.size + 1, 0, none⟩) 0 0] W fun e w' => LimPost gx m true A N ge le false W e w') :
  Calls Tryz.prog 8 #[.string a0] w fun e w' => e = .returned (.tuple #[.agg #[.int .i64 0, .bool false, .int .u32 0, .int .i64 0, .int .i64 0, .int .i64 0], .int .i64 3]) ∧ Below w.heap.size w w' := by
 have h0 : 0 < (xs.length : Int) := by simp at hl; omega
 have h1 : 1 < (xs.length : Int) := by simp at hl; omega
 have h2 : 0 < xs.length := by omega
 have h3 : 1 < xs.length := by omega
 have h4 : ¬ (xs.length : Int) < 3 := by simp at hl; omega
 have h5 : 2 < (xs.length : Int) := by simp at hl; omega
 have h6 : 2 < xs.length := by omega
 have hc := fun W => plist_number.calls s0 m W hn
 clear hn
 have h3z : (3 : Int) ≤ (xs.length : Int) := by simp at hl; omega
 have HL := Aside0.mk hL
 clear hL
 go_enter Tryz.func8, Tryz.ntmps8
 go_wp2_with (first | (go_at_call 30; refine (hS _ (be_al _ (Below.refl _ _) (Nat.le_refl _))).mono ?_; rintro e w' ⟨rfl, hb, qs, qw⟩; replace qs : w.heap.size + 1 < w'.heap.size := (by simpa using qs); have q0 : w'.cell? ⟨w.heap.size + 1, 0, none⟩ = some (.string s0) := (by simpa using qw 0 s0 hx0); have q1 : w'.cell? ⟨w.heap.size + 1, 1, none⟩ = some (.string s1) := (by simpa using qw 1 s1 hx1); have q2 : w'.cell? ⟨w.heap.size + 1, 2, none⟩ = some (.string s2) := (by simpa using qw 2 s2 hx2); have hg := be_keep hb (al_mine w 0 false 0 0 0 0); have QW := Aside0.mk (show ∀ (j : Nat) (s : ByteArray), xs[j]? = some s → w'.cell? ⟨w.heap.size + 1, j, none⟩ = some (.string s) from fun j s hj => by simpa using qw j s hj); clear qw) | (go_at_call 31; refine (hc _).mono ?_; rintro e w2 ⟨rfl, hb2⟩; have z0 := be_cell hb2 q0; have z1 := be_cell hb2 q1; have z2 := be_cell hb2 q2; have hg2 := be_keep hb2 hg; obtain ⟨r0, r1, r2, r3, r4, r5, f0, f1, f2, f3, f4, f5⟩ := rc_all hg2) | (go_at_call 32; refine (hA _ (be_go hb2 (be_go hb (be_al _ (Below.refl _ _) (Nat.le_refl _)) (Nat.le_refl _)) (Nat.le_refl _))).mono ?_; rintro e w3 ⟨rfl, hb3⟩; have hg3 := be_keep hb3 hg2))
 all_goals obtain ⟨w5, e5, v2, v3, v0, v1, vg, vb, vs1, vs2, QV, vn1, vn2, vn3, vn4⟩ := mdf (A := A) (N := N) hb hb2 hb3 z0 z1 hg3 qs QW
 all_goals clear hb hb2 hb3 z0 z1 z2 hg hg2 hg3 q0 q1 q2 r0 r1 r2 r3 r4 r5 f0 f1 f2 f3 f4 f5 QW
 all_goals rw [e5]
 all_goals clear e5
 all_goals go_region_held3 (fun W => W.cell? ⟨w.heap.size + 1, 0, none⟩ = some (.string s0) ∧ W.cell? ⟨w.heap.size + 1, 1, none⟩ = some (.string s1) ∧ W.cell? ⟨w3.heap.size, 0, none⟩ = some (.int .u32 A) ∧ W.cell? ⟨w3.heap.size, 1, none⟩ = some (.int .i64 N)) (go_keep) (first | (go_at_call 31; refine (hc _).mono ?_; rintro e w4 ⟨rfl, hb4⟩; (first | (have ordA : True := trivial; have h54 : Below w5.heap.size w5 w4 := ((Below.refl _ _).drew).trans hb4) | (have ordB : True := trivial; have h54 : Below w5.heap.size w5 w4 := (((Below.refl _ _).drew).alloc (Nat.le_refl _) _).trans (hb4.mono (by simp)); have hgx0 := (hb4.block w5.heap.size (by simp)).trans (al_mine w5.drew 0 false 0 0 0 0); obtain ⟨x0, x1, x2, x3, x4, x5, fx0, fx1, fx2, fx3, fx4, fx5⟩ := rc_all hgx0)); have j0 := be_cell h54 v0; have j1 := be_cell h54 v1; have j2 := be_cell h54 v2; have j3 := be_cell h54 v3; have js := Nat.lt_of_lt_of_le vs1 h54.size; have jt := Nat.lt_of_lt_of_le vs2 h54.size; have jz := h54.size))
 ·have _t := ordA
  obtain ⟨w6, e6, HX, HG, QW, B6, gs, gw, bs⟩ := paf (m := m) (p := true) (A := A) (N := N) h54 vg vb QV js
  clear ordA
  clear h54 vg vb hb4 v0 v1 v2 v3 vs1 vs2 vn1 vn2 vn3 vn4 QV j0 j1 j2 j3 js jt jz
  rw [e6]
  clear e6
  generalize w4.heap.size = gx at *
  obtain ⟨r0, r1, r2, r3, r4, r5, f0, f1, f2, f3, f4, f5⟩ := rc_all HG
  go_wp2_with (go_at_call 33; refine (HL.out _ gx HX QW.out gw).mono ?_; rintro e w7 ⟨rfl, hx7, hb7⟩; have hg7 := (hb7.block w.heap.size (by omega)).trans HG; have B7 : Below w.heap.size w w7 := B6.trans (hb7.mono (by omega)); clear r0 r1 r2 r3 r4 r5 f0 f1 f2 f3 f4 f5; obtain ⟨r0, r1, r2, r3, r4, r5, f0, f1, f2, f3, f4, f5⟩ := rc_all hg7; obtain ⟨x0, x1, x2, x3, x4, x5, y0, y1, y2, y3, y4, y5⟩ := rc_all hx7)
  exact bodyPost_ret (results_ct rfl _ _ w.heap.size 26 _ (0, 0) _ rfl (set6 hg7) Tryz.underlying26 rfl rfl) rfl ⟨rfl, set6_below B7 (Nat.le_refl _)⟩
 ·have _t := ordB
  obtain ⟨w6, e6, HX, HG, QW, B6, gs, gw, bs⟩ := pbf (m := m) (p := true) (A := A) (N := N) hgx0 h54 vg vb QV vs1
  clear ordB hgx0 x0 x1 x2 x3 x4 x5 fx0 fx1 fx2 fx3 fx4 fx5
  clear h54 vg vb hb4 v0 v1 v2 v3 vs1 vs2 vn1 vn2 vn3 vn4 QV j0 j1 j2 j3 js jt jz
  rw [e6]
  clear e6
  generalize w5.heap.size = gx at *
  obtain ⟨r0, r1, r2, r3, r4, r5, f0, f1, f2, f3, f4, f5⟩ := rc_all HG
  go_wp2_with (go_at_call 33; refine (HL.out _ gx HX QW.out gw).mono ?_; rintro e w7 ⟨rfl, hx7, hb7⟩; have hg7 := (hb7.block w.heap.size (by omega)).trans HG; have B7 : Below w.heap.size w w7 := B6.trans (hb7.mono (by omega)); clear r0 r1 r2 r3 r4 r5 f0 f1 f2 f3 f4 f5; obtain ⟨r0, r1, r2, r3, r4, r5, f0, f1, f2, f3, f4, f5⟩ := rc_all hg7; obtain ⟨x0, x1, x2, x3, x4, x5, y0, y1, y2, y3, y4, y5⟩ := rc_all hx7)
  exact bodyPost_ret (results_ct rfl _ _ w.heap.size 26 _ (0, 0) _ rfl (set6 hg7) Tryz.underlying26 rfl rfl) rfl ⟨rfl, set6_below B7 (Nat.le_refl _)⟩
set_option maxRecDepth 20000 in
set_option maxHeartbeats 4000000 in
theorem parse_l3_false (a0 : ByteArray) (xs : List ByteArray) (w : World) (s0 s1 s2 : ByteArray) (m : Int) (hx0 : xs[0]? = some s0) (hx1 : xs[1]? = some s1) (hx2 : xs[2]? = some s2)
  (hS : ∀ W : World, Below w.heap.size w W → Calls Tryz.prog 30 #[.string a0, .string ⟨#[32]⟩] W fun e w' => e = .returned (.slice (some ⟨W.heap.size, 0, none⟩) xs.length xs.length) ∧ Words W w' xs) (hl : decide ((xs.length : Int) < 3) = false)
  (hn : plist_number.f s0 = some m) (hm : (m == 0) = false) (hs1 : (s1.toList == [112, 101, 114, 109, 105, 116]) = false) (hs3 : (s1.toList == [100, 101, 110, 121]) = true) (A N e3 : Int)
  (hA : ∀ W : World, Below w.heap.size w W → Calls Tryz.prog 32 #[.string s2] W fun e w' => e = .returned (.tuple #[.agg #[.int .u32 A, .int .i64 N], .int .i64 e3]) ∧ Below W.heap.size W w') (he : (e3 == 3) = false) (ge le : Int) (hx3 : xs.length = 3) (hL : ∀ (W : World) (gx : Nat), W.heap[gx]? = some (ruleCells m false A N 0 0) → (∀ (j : Nat) (s : ByteArray), xs[j]? = some s → W.cell? ⟨w.heap.size + 1, j, none⟩ = some (.string s)) → w.heap.size + 1 < gx →
   Calls Tryz.prog 33 #[.pointer (some ⟨gx, 0, none⟩), .slice (some ⟨w.heap.size + 1, 0, none⟩) 0 0] W fun e w' => LimPost gx m false A N ge le false W e w') :
  Calls Tryz.prog 8 #[.string a0] w fun e w' => e = .returned (.tuple #[.agg #[.int .i64 0, .bool false, .int .u32 0, .int .i64 0, .int .i64 0, .int .i64 0], .int .i64 3]) ∧ Below w.heap.size w w' := by
 have h0 : 0 < (xs.length : Int) := by simp at hl; omega
 have h1 : 1 < (xs.length : Int) := by simp at hl; omega
 have h2 : 0 < xs.length := by omega
 have h3 : 1 < xs.length := by omega
 have h4 : ¬ (xs.length : Int) < 3 := by simp at hl; omega
 have h5 : 2 < (xs.length : Int) := by simp at hl; omega
 have h6 : 2 < xs.length := by omega
 have hc := fun W => plist_number.calls s0 m W hn
 clear hn
 have h3z : (3 : Int) ≤ (xs.length : Int) := by simp at hl; omega
 have HL := Aside0.mk hL
 clear hL
 go_enter Tryz.func8, Tryz.ntmps8
 go_wp2_with (first | (go_at_call 30; refine (hS _ (be_al _ (Below.refl _ _) (Nat.le_refl _))).mono ?_; rintro e w' ⟨rfl, hb, qs, qw⟩; replace qs : w.heap.size + 1 < w'.heap.size := (by simpa using qs); have q0 : w'.cell? ⟨w.heap.size + 1, 0, none⟩ = some (.string s0) := (by simpa using qw 0 s0 hx0); have q1 : w'.cell? ⟨w.heap.size + 1, 1, none⟩ = some (.string s1) := (by simpa using qw 1 s1 hx1); have q2 : w'.cell? ⟨w.heap.size + 1, 2, none⟩ = some (.string s2) := (by simpa using qw 2 s2 hx2); have hg := be_keep hb (al_mine w 0 false 0 0 0 0); have QW := Aside0.mk (show ∀ (j : Nat) (s : ByteArray), xs[j]? = some s → w'.cell? ⟨w.heap.size + 1, j, none⟩ = some (.string s) from fun j s hj => by simpa using qw j s hj); clear qw) | (go_at_call 31; refine (hc _).mono ?_; rintro e w2 ⟨rfl, hb2⟩; have z0 := be_cell hb2 q0; have z1 := be_cell hb2 q1; have z2 := be_cell hb2 q2; have hg2 := be_keep hb2 hg; obtain ⟨r0, r1, r2, r3, r4, r5, f0, f1, f2, f3, f4, f5⟩ := rc_all hg2) | (go_at_call 32; refine (hA _ (be_go hb2 (be_go hb (be_al _ (Below.refl _ _) (Nat.le_refl _)) (Nat.le_refl _)) (Nat.le_refl _))).mono ?_; rintro e w3 ⟨rfl, hb3⟩; have hg3 := be_keep hb3 hg2))
 all_goals obtain ⟨w5, e5, v2, v3, v0, v1, vg, vb, vs1, vs2, QV, vn1, vn2, vn3, vn4⟩ := mdf (A := A) (N := N) hb hb2 hb3 z0 z1 hg3 qs QW
 all_goals clear hb hb2 hb3 z0 z1 z2 hg hg2 hg3 q0 q1 q2 r0 r1 r2 r3 r4 r5 f0 f1 f2 f3 f4 f5 QW
 all_goals rw [e5]
 all_goals clear e5
 all_goals go_region_held3 (fun W => W.cell? ⟨w.heap.size + 1, 0, none⟩ = some (.string s0) ∧ W.cell? ⟨w.heap.size + 1, 1, none⟩ = some (.string s1) ∧ W.cell? ⟨w3.heap.size, 0, none⟩ = some (.int .u32 A) ∧ W.cell? ⟨w3.heap.size, 1, none⟩ = some (.int .i64 N)) (go_keep) (first | (go_at_call 31; refine (hc _).mono ?_; rintro e w4 ⟨rfl, hb4⟩; (first | (have ordA : True := trivial; have h54 : Below w5.heap.size w5 w4 := ((Below.refl _ _).drew).trans hb4) | (have ordB : True := trivial; have h54 : Below w5.heap.size w5 w4 := (((Below.refl _ _).drew).alloc (Nat.le_refl _) _).trans (hb4.mono (by simp)); have hgx0 := (hb4.block w5.heap.size (by simp)).trans (al_mine w5.drew 0 false 0 0 0 0); obtain ⟨x0, x1, x2, x3, x4, x5, fx0, fx1, fx2, fx3, fx4, fx5⟩ := rc_all hgx0)); have j0 := be_cell h54 v0; have j1 := be_cell h54 v1; have j2 := be_cell h54 v2; have j3 := be_cell h54 v3; have js := Nat.lt_of_lt_of_le vs1 h54.size; have jt := Nat.lt_of_lt_of_le vs2 h54.size; have jz := h54.size))
 ·have _t := ordA
  obtain ⟨w6, e6, HX, HG, QW, B6, gs, gw, bs⟩ := paf (m := m) (p := false) (A := A) (N := N) h54 vg vb QV js
  clear ordA
  clear h54 vg vb hb4 v0 v1 v2 v3 vs1 vs2 vn1 vn2 vn3 vn4 QV j0 j1 j2 j3 js jt jz
  rw [e6]
  clear e6
  generalize w4.heap.size = gx at *
  obtain ⟨r0, r1, r2, r3, r4, r5, f0, f1, f2, f3, f4, f5⟩ := rc_all HG
  go_wp2_with (go_at_call 33; refine (HL.out _ gx HX QW.out gw).mono ?_; rintro e w7 ⟨rfl, hx7, hb7⟩; have hg7 := (hb7.block w.heap.size (by omega)).trans HG; have B7 : Below w.heap.size w w7 := B6.trans (hb7.mono (by omega)); clear r0 r1 r2 r3 r4 r5 f0 f1 f2 f3 f4 f5; obtain ⟨r0, r1, r2, r3, r4, r5, f0, f1, f2, f3, f4, f5⟩ := rc_all hg7; obtain ⟨x0, x1, x2, x3, x4, x5, y0, y1, y2, y3, y4, y5⟩ := rc_all hx7)
  exact bodyPost_ret (results_ct rfl _ _ w.heap.size 26 _ (0, 0) _ rfl (set6 hg7) Tryz.underlying26 rfl rfl) rfl ⟨rfl, set6_below B7 (Nat.le_refl _)⟩
 ·have _t := ordB
  obtain ⟨w6, e6, HX, HG, QW, B6, gs, gw, bs⟩ := pbf (m := m) (p := false) (A := A) (N := N) hgx0 h54 vg vb QV vs1
  clear ordB hgx0 x0 x1 x2 x3 x4 x5 fx0 fx1 fx2 fx3 fx4 fx5
  clear h54 vg vb hb4 v0 v1 v2 v3 vs1 vs2 vn1 vn2 vn3 vn4 QV j0 j1 j2 j3 js jt jz
  rw [e6]
  clear e6
  generalize w5.heap.size = gx at *
  obtain ⟨r0, r1, r2, r3, r4, r5, f0, f1, f2, f3, f4, f5⟩ := rc_all HG
  go_wp2_with (go_at_call 33; refine (HL.out _ gx HX QW.out gw).mono ?_; rintro e w7 ⟨rfl, hx7, hb7⟩; have hg7 := (hb7.block w.heap.size (by omega)).trans HG; have B7 : Below w.heap.size w w7 := B6.trans (hb7.mono (by omega)); clear r0 r1 r2 r3 r4 r5 f0 f1 f2 f3 f4 f5; obtain ⟨r0, r1, r2, r3, r4, r5, f0, f1, f2, f3, f4, f5⟩ := rc_all hg7; obtain ⟨x0, x1, x2, x3, x4, x5, y0, y1, y2, y3, y4, y5⟩ := rc_all hx7)
  exact bodyPost_ret (results_ct rfl _ _ w.heap.size 26 _ (0, 0) _ rfl (set6 hg7) Tryz.underlying26 rfl rfl) rfl ⟨rfl, set6_below B7 (Nat.le_refl _)⟩
set_option maxRecDepth 20000 in
set_option maxHeartbeats 4000000 in
theorem parse_e3_true (a0 : ByteArray) (xs : List ByteArray) (w : World) (s0 s1 s2 : ByteArray) (m : Int) (hx0 : xs[0]? = some s0) (hx1 : xs[1]? = some s1) (hx2 : xs[2]? = some s2)
  (hS : ∀ W : World, Below w.heap.size w W → Calls Tryz.prog 30 #[.string a0, .string ⟨#[32]⟩] W fun e w' => e = .returned (.slice (some ⟨W.heap.size, 0, none⟩) xs.length xs.length) ∧ Words W w' xs) (hl : decide ((xs.length : Int) < 3) = false)
  (hn : plist_number.f s0 = some m) (hm : (m == 0) = false) (hs1 : (s1.toList == [112, 101, 114, 109, 105, 116]) = true)  (A N e3 : Int)
  (hA : ∀ W : World, Below w.heap.size w W → Calls Tryz.prog 32 #[.string s2] W fun e w' => e = .returned (.tuple #[.agg #[.int .u32 A, .int .i64 N], .int .i64 e3]) ∧ Below W.heap.size W w') (he : (e3 == 3) = false) (he0 : (e3 != 0) = true) (ge le : Int) (hx3 : xs.length = 3) (hL : ∀ (W : World) (gx : Nat), W.heap[gx]? = some (ruleCells m true A N 0 0) → (∀ (j : Nat) (s : ByteArray), xs[j]? = some s → W.cell? ⟨w.heap.size + 1, j, none⟩ = some (.string s)) → w.heap.size + 1 < gx →
   Calls Tryz.prog 33 #[.pointer (some ⟨gx, 0, none⟩), .slice (some ⟨w.heap.size + 1, 0, none⟩) 0 0] W fun e w' => LimPost gx m true A N ge le true W e w') :
  Calls Tryz.prog 8 #[.string a0] w fun e w' => e = .returned (.tuple #[.agg #[.int .i64 0, .bool false, .int .u32 0, .int .i64 0, .int .i64 0, .int .i64 0], .int .i64 1]) ∧ Below w.heap.size w w' := by
 have h0 : 0 < (xs.length : Int) := by simp at hl; omega
 have h1 : 1 < (xs.length : Int) := by simp at hl; omega
 have h2 : 0 < xs.length := by omega
 have h3 : 1 < xs.length := by omega
 have h4 : ¬ (xs.length : Int) < 3 := by simp at hl; omega
 have h5 : 2 < (xs.length : Int) := by simp at hl; omega
 have h6 : 2 < xs.length := by omega
 have hc := fun W => plist_number.calls s0 m W hn
 clear hn
 have h3z : (3 : Int) ≤ (xs.length : Int) := by simp at hl; omega
 have HL := Aside0.mk hL
 clear hL
 go_enter Tryz.func8, Tryz.ntmps8
 go_wp2_with (first | (go_at_call 30; refine (hS _ (be_al _ (Below.refl _ _) (Nat.le_refl _))).mono ?_; rintro e w' ⟨rfl, hb, qs, qw⟩; replace qs : w.heap.size + 1 < w'.heap.size := (by simpa using qs); have q0 : w'.cell? ⟨w.heap.size + 1, 0, none⟩ = some (.string s0) := (by simpa using qw 0 s0 hx0); have q1 : w'.cell? ⟨w.heap.size + 1, 1, none⟩ = some (.string s1) := (by simpa using qw 1 s1 hx1); have q2 : w'.cell? ⟨w.heap.size + 1, 2, none⟩ = some (.string s2) := (by simpa using qw 2 s2 hx2); have hg := be_keep hb (al_mine w 0 false 0 0 0 0); have QW := Aside0.mk (show ∀ (j : Nat) (s : ByteArray), xs[j]? = some s → w'.cell? ⟨w.heap.size + 1, j, none⟩ = some (.string s) from fun j s hj => by simpa using qw j s hj); clear qw) | (go_at_call 31; refine (hc _).mono ?_; rintro e w2 ⟨rfl, hb2⟩; have z0 := be_cell hb2 q0; have z1 := be_cell hb2 q1; have z2 := be_cell hb2 q2; have hg2 := be_keep hb2 hg; obtain ⟨r0, r1, r2, r3, r4, r5, f0, f1, f2, f3, f4, f5⟩ := rc_all hg2) | (go_at_call 32; refine (hA _ (be_go hb2 (be_go hb (be_al _ (Below.refl _ _) (Nat.le_refl _)) (Nat.le_refl _)) (Nat.le_refl _))).mono ?_; rintro e w3 ⟨rfl, hb3⟩; have hg3 := be_keep hb3 hg2))
 all_goals obtain ⟨w5, e5, v2, v3, v0, v1, vg, vb, vs1, vs2, QV, vn1, vn2, vn3, vn4⟩ := mdf (A := A) (N := N) hb hb2 hb3 z0 z1 hg3 qs QW
 all_goals clear hb hb2 hb3 z0 z1 z2 hg hg2 hg3 q0 q1 q2 r0 r1 r2 r3 r4 r5 f0 f1 f2 f3 f4 f5 QW
 all_goals rw [e5]
 all_goals clear e5
 all_goals go_region_held3 (fun W => W.cell? ⟨w.heap.size + 1, 0, none⟩ = some (.string s0) ∧ W.cell? ⟨w.heap.size + 1, 1, none⟩ = some (.string s1) ∧ W.cell? ⟨w3.heap.size, 0, none⟩ = some (.int .u32 A) ∧ W.cell? ⟨w3.heap.size, 1, none⟩ = some (.int .i64 N)) (go_keep) (first | (go_at_call 31; refine (hc _).mono ?_; rintro e w4 ⟨rfl, hb4⟩; (first | (have ordA : True := trivial; have h54 : Below w5.heap.size w5 w4 := ((Below.refl _ _).drew).trans hb4) | (have ordB : True := trivial; have h54 : Below w5.heap.size w5 w4 := (((Below.refl _ _).drew).alloc (Nat.le_refl _) _).trans (hb4.mono (by simp)); have hgx0 := (hb4.block w5.heap.size (by simp)).trans (al_mine w5.drew 0 false 0 0 0 0); obtain ⟨x0, x1, x2, x3, x4, x5, fx0, fx1, fx2, fx3, fx4, fx5⟩ := rc_all hgx0)); have j0 := be_cell h54 v0; have j1 := be_cell h54 v1; have j2 := be_cell h54 v2; have j3 := be_cell h54 v3; have js := Nat.lt_of_lt_of_le vs1 h54.size; have jt := Nat.lt_of_lt_of_le vs2 h54.size; have jz := h54.size))
 ·have _t := ordA
  obtain ⟨w6, e6, HX, HG, QW, B6, gs, gw, bs⟩ := paf (m := m) (p := true) (A := A) (N := N) h54 vg vb QV js
  clear ordA
  clear h54 vg vb hb4 v0 v1 v2 v3 vs1 vs2 vn1 vn2 vn3 vn4 QV j0 j1 j2 j3 js jt jz
  rw [e6]
  clear e6
  generalize w4.heap.size = gx at *
  obtain ⟨r0, r1, r2, r3, r4, r5, f0, f1, f2, f3, f4, f5⟩ := rc_all HG
  go_wp2_with (go_at_call 33; refine (HL.out _ gx HX QW.out gw).mono ?_; rintro e w7 ⟨rfl, hx7, hb7⟩; have hg7 := (hb7.block w.heap.size (by omega)).trans HG; have B7 : Below w.heap.size w w7 := B6.trans (hb7.mono (by omega)); clear r0 r1 r2 r3 r4 r5 f0 f1 f2 f3 f4 f5; obtain ⟨r0, r1, r2, r3, r4, r5, f0, f1, f2, f3, f4, f5⟩ := rc_all hg7; obtain ⟨x0, x1, x2, x3, x4, x5, y0, y1, y2, y3, y4, y5⟩ := rc_all hx7)
  exact bodyPost_ret (results_ct rfl _ _ w.heap.size 26 _ (0, 0) _ rfl (set6 hg7) Tryz.underlying26 rfl rfl) rfl ⟨rfl, set6_below B7 (Nat.le_refl _)⟩
 ·have _t := ordB
  obtain ⟨w6, e6, HX, HG, QW, B6, gs, gw, bs⟩ := pbf (m := m) (p := true) (A := A) (N := N) hgx0 h54 vg vb QV vs1
  clear ordB hgx0 x0 x1 x2 x3 x4 x5 fx0 fx1 fx2 fx3 fx4 fx5
  clear h54 vg vb hb4 v0 v1 v2 v3 vs1 vs2 vn1 vn2 vn3 vn4 QV j0 j1 j2 j3 js jt jz
  rw [e6]
  clear e6
  generalize w5.heap.size = gx at *
  obtain ⟨r0, r1, r2, r3, r4, r5, f0, f1, f2, f3, f4, f5⟩ := rc_all HG
  go_wp2_with (go_at_call 33; refine (HL.out _ gx HX QW.out gw).mono ?_; rintro e w7 ⟨rfl, hx7, hb7⟩; have hg7 := (hb7.block w.heap.size (by omega)).trans HG; have B7 : Below w.heap.size w w7 := B6.trans (hb7.mono (by omega)); clear r0 r1 r2 r3 r4 r5 f0 f1 f2 f3 f4 f5; obtain ⟨r0, r1, r2, r3, r4, r5, f0, f1, f2, f3, f4, f5⟩ := rc_all hg7; obtain ⟨x0, x1, x2, x3, x4, x5, y0, y1, y2, y3, y4, y5⟩ := rc_all hx7)
  exact bodyPost_ret (results_ct rfl _ _ w.heap.size 26 _ (0, 0) _ rfl (set6 hg7) Tryz.underlying26 rfl rfl) rfl ⟨rfl, set6_below B7 (Nat.le_refl _)⟩
set_option maxRecDepth 20000 in
set_option maxHeartbeats 4000000 in
theorem parse_e3_false (a0 : ByteArray) (xs : List ByteArray) (w : World) (s0 s1 s2 : ByteArray) (m : Int) (hx0 : xs[0]? = some s0) (hx1 : xs[1]? = some s1) (hx2 : xs[2]? = some s2)
  (hS : ∀ W : World, Below w.heap.size w W → Calls Tryz.prog 30 #[.string a0, .string ⟨#[32]⟩] W fun e w' => e = .returned (.slice (some ⟨W.heap.size, 0, none⟩) xs.length xs.length) ∧ Words W w' xs) (hl : decide ((xs.length : Int) < 3) = false)
  (hn : plist_number.f s0 = some m) (hm : (m == 0) = false) (hs1 : (s1.toList == [112, 101, 114, 109, 105, 116]) = false) (hs3 : (s1.toList == [100, 101, 110, 121]) = true) (A N e3 : Int)
  (hA : ∀ W : World, Below w.heap.size w W → Calls Tryz.prog 32 #[.string s2] W fun e w' => e = .returned (.tuple #[.agg #[.int .u32 A, .int .i64 N], .int .i64 e3]) ∧ Below W.heap.size W w') (he : (e3 == 3) = false) (he0 : (e3 != 0) = true) (ge le : Int) (hx3 : xs.length = 3) (hL : ∀ (W : World) (gx : Nat), W.heap[gx]? = some (ruleCells m false A N 0 0) → (∀ (j : Nat) (s : ByteArray), xs[j]? = some s → W.cell? ⟨w.heap.size + 1, j, none⟩ = some (.string s)) → w.heap.size + 1 < gx →
   Calls Tryz.prog 33 #[.pointer (some ⟨gx, 0, none⟩), .slice (some ⟨w.heap.size + 1, 0, none⟩) 0 0] W fun e w' => LimPost gx m false A N ge le true W e w') :
  Calls Tryz.prog 8 #[.string a0] w fun e w' => e = .returned (.tuple #[.agg #[.int .i64 0, .bool false, .int .u32 0, .int .i64 0, .int .i64 0, .int .i64 0], .int .i64 1]) ∧ Below w.heap.size w w' := by
 have h0 : 0 < (xs.length : Int) := by simp at hl; omega
 have h1 : 1 < (xs.length : Int) := by simp at hl; omega
 have h2 : 0 < xs.length := by omega
 have h3 : 1 < xs.length := by omega
 have h4 : ¬ (xs.length : Int) < 3 := by simp at hl; omega
 have h5 : 2 < (xs.length : Int) := by simp at hl; omega
 have h6 : 2 < xs.length := by omega
 have hc := fun W => plist_number.calls s0 m W hn
 clear hn
 have h3z : (3 : Int) ≤ (xs.length : Int) := by simp at hl; omega
 have HL := Aside0.mk hL
 clear hL
 go_enter Tryz.func8, Tryz.ntmps8
 go_wp2_with (first | (go_at_call 30; refine (hS _ (be_al _ (Below.refl _ _) (Nat.le_refl _))).mono ?_; rintro e w' ⟨rfl, hb, qs, qw⟩; replace qs : w.heap.size + 1 < w'.heap.size := (by simpa using qs); have q0 : w'.cell? ⟨w.heap.size + 1, 0, none⟩ = some (.string s0) := (by simpa using qw 0 s0 hx0); have q1 : w'.cell? ⟨w.heap.size + 1, 1, none⟩ = some (.string s1) := (by simpa using qw 1 s1 hx1); have q2 : w'.cell? ⟨w.heap.size + 1, 2, none⟩ = some (.string s2) := (by simpa using qw 2 s2 hx2); have hg := be_keep hb (al_mine w 0 false 0 0 0 0); have QW := Aside0.mk (show ∀ (j : Nat) (s : ByteArray), xs[j]? = some s → w'.cell? ⟨w.heap.size + 1, j, none⟩ = some (.string s) from fun j s hj => by simpa using qw j s hj); clear qw) | (go_at_call 31; refine (hc _).mono ?_; rintro e w2 ⟨rfl, hb2⟩; have z0 := be_cell hb2 q0; have z1 := be_cell hb2 q1; have z2 := be_cell hb2 q2; have hg2 := be_keep hb2 hg; obtain ⟨r0, r1, r2, r3, r4, r5, f0, f1, f2, f3, f4, f5⟩ := rc_all hg2) | (go_at_call 32; refine (hA _ (be_go hb2 (be_go hb (be_al _ (Below.refl _ _) (Nat.le_refl _)) (Nat.le_refl _)) (Nat.le_refl _))).mono ?_; rintro e w3 ⟨rfl, hb3⟩; have hg3 := be_keep hb3 hg2))
 all_goals obtain ⟨w5, e5, v2, v3, v0, v1, vg, vb, vs1, vs2, QV, vn1, vn2, vn3, vn4⟩ := mdf (A := A) (N := N) hb hb2 hb3 z0 z1 hg3 qs QW
 all_goals clear hb hb2 hb3 z0 z1 z2 hg hg2 hg3 q0 q1 q2 r0 r1 r2 r3 r4 r5 f0 f1 f2 f3 f4 f5 QW
 all_goals rw [e5]
 all_goals clear e5
 all_goals go_region_held3 (fun W => W.cell? ⟨w.heap.size + 1, 0, none⟩ = some (.string s0) ∧ W.cell? ⟨w.heap.size + 1, 1, none⟩ = some (.string s1) ∧ W.cell? ⟨w3.heap.size, 0, none⟩ = some (.int .u32 A) ∧ W.cell? ⟨w3.heap.size, 1, none⟩ = some (.int .i64 N)) (go_keep) (first | (go_at_call 31; refine (hc _).mono ?_; rintro e w4 ⟨rfl, hb4⟩; (first | (have ordA : True := trivial; have h54 : Below w5.heap.size w5 w4 := ((Below.refl _ _).drew).trans hb4) | (have ordB : True := trivial; have h54 : Below w5.heap.size w5 w4 := (((Below.refl _ _).drew).alloc (Nat.le_refl _) _).trans (hb4.mono (by simp)); have hgx0 := (hb4.block w5.heap.size (by simp)).trans (al_mine w5.drew 0 false 0 0 0 0); obtain ⟨x0, x1, x2, x3, x4, x5, fx0, fx1, fx2, fx3, fx4, fx5⟩ := rc_all hgx0)); have j0 := be_cell h54 v0; have j1 := be_cell h54 v1; have j2 := be_cell h54 v2; have j3 := be_cell h54 v3; have js := Nat.lt_of_lt_of_le vs1 h54.size; have jt := Nat.lt_of_lt_of_le vs2 h54.size; have jz := h54.size))
 ·have _t := ordA
  obtain ⟨w6, e6, HX, HG, QW, B6, gs, gw, bs⟩ := paf (m := m) (p := false) (A := A) (N := N) h54 vg vb QV js
  clear ordA
  clear h54 vg vb hb4 v0 v1 v2 v3 vs1 vs2 vn1 vn2 vn3 vn4 QV j0 j1 j2 j3 js jt jz
  rw [e6]
  clear e6
  generalize w4.heap.size = gx at *
  obtain ⟨r0, r1, r2, r3, r4, r5, f0, f1, f2, f3, f4, f5⟩ := rc_all HG
  go_wp2_with (go_at_call 33; refine (HL.out _ gx HX QW.out gw).mono ?_; rintro e w7 ⟨rfl, hx7, hb7⟩; have hg7 := (hb7.block w.heap.size (by omega)).trans HG; have B7 : Below w.heap.size w w7 := B6.trans (hb7.mono (by omega)); clear r0 r1 r2 r3 r4 r5 f0 f1 f2 f3 f4 f5; obtain ⟨r0, r1, r2, r3, r4, r5, f0, f1, f2, f3, f4, f5⟩ := rc_all hg7; obtain ⟨x0, x1, x2, x3, x4, x5, y0, y1, y2, y3, y4, y5⟩ := rc_all hx7)
  exact bodyPost_ret (results_ct rfl _ _ w.heap.size 26 _ (0, 0) _ rfl (set6 hg7) Tryz.underlying26 rfl rfl) rfl ⟨rfl, set6_below B7 (Nat.le_refl _)⟩
 ·have _t := ordB
  obtain ⟨w6, e6, HX, HG, QW, B6, gs, gw, bs⟩ := pbf (m := m) (p := false) (A := A) (N := N) hgx0 h54 vg vb QV vs1
  clear ordB hgx0 x0 x1 x2 x3 x4 x5 fx0 fx1 fx2 fx3 fx4 fx5
  clear h54 vg vb hb4 v0 v1 v2 v3 vs1 vs2 vn1 vn2 vn3 vn4 QV j0 j1 j2 j3 js jt jz
  rw [e6]
  clear e6
  generalize w5.heap.size = gx at *
  obtain ⟨r0, r1, r2, r3, r4, r5, f0, f1, f2, f3, f4, f5⟩ := rc_all HG
  go_wp2_with (go_at_call 33; refine (HL.out _ gx HX QW.out gw).mono ?_; rintro e w7 ⟨rfl, hx7, hb7⟩; have hg7 := (hb7.block w.heap.size (by omega)).trans HG; have B7 : Below w.heap.size w w7 := B6.trans (hb7.mono (by omega)); clear r0 r1 r2 r3 r4 r5 f0 f1 f2 f3 f4 f5; obtain ⟨r0, r1, r2, r3, r4, r5, f0, f1, f2, f3, f4, f5⟩ := rc_all hg7; obtain ⟨x0, x1, x2, x3, x4, x5, y0, y1, y2, y3, y4, y5⟩ := rc_all hx7)
  exact bodyPost_ret (results_ct rfl _ _ w.heap.size 26 _ (0, 0) _ rfl (set6 hg7) Tryz.underlying26 rfl rfl) rfl ⟨rfl, set6_below B7 (Nat.le_refl _)⟩
set_option maxRecDepth 20000 in
set_option maxHeartbeats 4000000 in
theorem parse_m3_true (a0 : ByteArray) (xs : List ByteArray) (w : World) (s0 s1 s2 : ByteArray) (m : Int) (hx0 : xs[0]? = some s0) (hx1 : xs[1]? = some s1) (hx2 : xs[2]? = some s2)
  (hS : ∀ W : World, Below w.heap.size w W → Calls Tryz.prog 30 #[.string a0, .string ⟨#[32]⟩] W fun e w' => e = .returned (.slice (some ⟨W.heap.size, 0, none⟩) xs.length xs.length) ∧ Words W w' xs) (hl : decide ((xs.length : Int) < 3) = false)
  (hn : plist_number.f s0 = some m) (hm : (m == 0) = false) (hs1 : (s1.toList == [112, 101, 114, 109, 105, 116]) = true)  (A N : Int)
  (hA : ∀ W : World, Below w.heap.size w W → Calls Tryz.prog 32 #[.string s2] W fun e w' => e = .returned (.tuple #[.agg #[.int .u32 A, .int .i64 N], .int .i64 0]) ∧ Below W.heap.size W w') (ge le : Int) (hx3 : xs.length = 3) (hL : ∀ (W : World) (gx : Nat), W.heap[gx]? = some (ruleCells m true A N 0 0) → (∀ (j : Nat) (s : ByteArray), xs[j]? = some s → W.cell? ⟨w.heap.size + 1, j, none⟩ = some (.string s)) → w.heap.size + 1 < gx →
   Calls Tryz.prog 33 #[.pointer (some ⟨gx, 0, none⟩), .slice (some ⟨w.heap.size + 1, 0, none⟩) 0 0] W fun e w' => LimPost gx m true A N ge le true W e w') (hM : ∀ W : World, Calls Tryz.prog 10 #[.agg #[.int .i64 m, .bool true, .int .u32 A, .int .i64 N, .int .i64 ge, .int .i64 le]] W fun e w' => e = .returned (.bool false) ∧ Below W.heap.size W w') :
  Calls Tryz.prog 8 #[.string a0] w fun e w' => e = .returned (.tuple #[.agg #[.int .i64 0, .bool false, .int .u32 0, .int .i64 0, .int .i64 0, .int .i64 0], .int .i64 1]) ∧ Below w.heap.size w w' := by
 have h0 : 0 < (xs.length : Int) := by simp at hl; omega
 have h1 : 1 < (xs.length : Int) := by simp at hl; omega
 have h2 : 0 < xs.length := by omega
 have h3 : 1 < xs.length := by omega
 have h4 : ¬ (xs.length : Int) < 3 := by simp at hl; omega
 have h5 : 2 < (xs.length : Int) := by simp at hl; omega
 have h6 : 2 < xs.length := by omega
 have hc := fun W => plist_number.calls s0 m W hn
 clear hn
 have h3z : (3 : Int) ≤ (xs.length : Int) := by simp at hl; omega
 have HL := Aside0.mk hL
 clear hL
 go_enter Tryz.func8, Tryz.ntmps8
 go_wp2_with (first | (go_at_call 30; refine (hS _ (be_al _ (Below.refl _ _) (Nat.le_refl _))).mono ?_; rintro e w' ⟨rfl, hb, qs, qw⟩; replace qs : w.heap.size + 1 < w'.heap.size := (by simpa using qs); have q0 : w'.cell? ⟨w.heap.size + 1, 0, none⟩ = some (.string s0) := (by simpa using qw 0 s0 hx0); have q1 : w'.cell? ⟨w.heap.size + 1, 1, none⟩ = some (.string s1) := (by simpa using qw 1 s1 hx1); have q2 : w'.cell? ⟨w.heap.size + 1, 2, none⟩ = some (.string s2) := (by simpa using qw 2 s2 hx2); have hg := be_keep hb (al_mine w 0 false 0 0 0 0); have QW := Aside0.mk (show ∀ (j : Nat) (s : ByteArray), xs[j]? = some s → w'.cell? ⟨w.heap.size + 1, j, none⟩ = some (.string s) from fun j s hj => by simpa using qw j s hj); clear qw) | (go_at_call 31; refine (hc _).mono ?_; rintro e w2 ⟨rfl, hb2⟩; have z0 := be_cell hb2 q0; have z1 := be_cell hb2 q1; have z2 := be_cell hb2 q2; have hg2 := be_keep hb2 hg; obtain ⟨r0, r1, r2, r3, r4, r5, f0, f1, f2, f3, f4, f5⟩ := rc_all hg2) | (go_at_call 32; refine (hA _ (be_go hb2 (be_go hb (be_al _ (Below.refl _ _) (Nat.le_refl _)) (Nat.le_refl _)) (Nat.le_refl _))).mono ?_; rintro e w3 ⟨rfl, hb3⟩; have hg3 := be_keep hb3 hg2))
 all_goals obtain ⟨w5, e5, v2, v3, v0, v1, vg, vb, vs1, vs2, QV, vn1, vn2, vn3, vn4⟩ := mdf (A := A) (N := N) hb hb2 hb3 z0 z1 hg3 qs QW
 all_goals clear hb hb2 hb3 z0 z1 z2 hg hg2 hg3 q0 q1 q2 r0 r1 r2 r3 r4 r5 f0 f1 f2 f3 f4 f5 QW
 all_goals rw [e5]
 all_goals clear e5
 all_goals go_region_held3 (fun W => W.cell? ⟨w.heap.size + 1, 0, none⟩ = some (.string s0) ∧ W.cell? ⟨w.heap.size + 1, 1, none⟩ = some (.string s1) ∧ W.cell? ⟨w3.heap.size, 0, none⟩ = some (.int .u32 A) ∧ W.cell? ⟨w3.heap.size, 1, none⟩ = some (.int .i64 N)) (go_keep) (first | (go_at_call 31; refine (hc _).mono ?_; rintro e w4 ⟨rfl, hb4⟩; (first | (have ordA : True := trivial; have h54 : Below w5.heap.size w5 w4 := ((Below.refl _ _).drew).trans hb4) | (have ordB : True := trivial; have h54 : Below w5.heap.size w5 w4 := (((Below.refl _ _).drew).alloc (Nat.le_refl _) _).trans (hb4.mono (by simp)); have hgx0 := (hb4.block w5.heap.size (by simp)).trans (al_mine w5.drew 0 false 0 0 0 0); obtain ⟨x0, x1, x2, x3, x4, x5, fx0, fx1, fx2, fx3, fx4, fx5⟩ := rc_all hgx0)); have j0 := be_cell h54 v0; have j1 := be_cell h54 v1; have j2 := be_cell h54 v2; have j3 := be_cell h54 v3; have js := Nat.lt_of_lt_of_le vs1 h54.size; have jt := Nat.lt_of_lt_of_le vs2 h54.size; have jz := h54.size))
 ·have _t := ordA
  obtain ⟨w6, e6, HX, HG, QW, B6, gs, gw, bs⟩ := paf (m := m) (p := true) (A := A) (N := N) h54 vg vb QV js
  clear ordA
  clear h54 vg vb hb4 v0 v1 v2 v3 vs1 vs2 vn1 vn2 vn3 vn4 QV j0 j1 j2 j3 js jt jz
  rw [e6]
  clear e6
  generalize w4.heap.size = gx at *
  obtain ⟨r0, r1, r2, r3, r4, r5, f0, f1, f2, f3, f4, f5⟩ := rc_all HG
  go_wp2_with (first | (go_at_call 33; refine (HL.out _ gx HX QW.out gw).mono ?_; rintro e w7 ⟨rfl, hx7, hb7⟩; have hg7 := (hb7.block w.heap.size (by omega)).trans HG; have B7 : Below w.heap.size w w7 := B6.trans (hb7.mono (by omega)); clear r0 r1 r2 r3 r4 r5 f0 f1 f2 f3 f4 f5; obtain ⟨r0, r1, r2, r3, r4, r5, f0, f1, f2, f3, f4, f5⟩ := rc_all hg7; obtain ⟨x0, x1, x2, x3, x4, x5, y0, y1, y2, y3, y4, y5⟩ := rc_all hx7) | (go_at_call 10; refine (hM _).mono ?_; rintro e w8 ⟨rfl, hb8⟩; have hg8 := be_keep hb8 hg7; have hx8 := be_keep hb8 hx7; have B8 : Below w.heap.size w w8 := be_go hb8 B7 (Nat.le_refl _); clear r0 r1 r2 r3 r4 r5 f0 f1 f2 f3 f4 f5 x0 x1 x2 x3 x4 x5 y0 y1 y2 y3 y4 y5; obtain ⟨r0, r1, r2, r3, r4, r5, f0, f1, f2, f3, f4, f5⟩ := rc_all hg8; obtain ⟨x0, x1, x2, x3, x4, x5, y0, y1, y2, y3, y4, y5⟩ := rc_all hx8))
  exact bodyPost_ret (results_ct rfl _ _ w.heap.size 26 _ (0, 0) _ rfl (set6 hg8) Tryz.underlying26 rfl rfl) rfl ⟨rfl, set6_below B8 (Nat.le_refl _)⟩
 ·have _t := ordB
  obtain ⟨w6, e6, HX, HG, QW, B6, gs, gw, bs⟩ := pbf (m := m) (p := true) (A := A) (N := N) hgx0 h54 vg vb QV vs1
  clear ordB hgx0 x0 x1 x2 x3 x4 x5 fx0 fx1 fx2 fx3 fx4 fx5
  clear h54 vg vb hb4 v0 v1 v2 v3 vs1 vs2 vn1 vn2 vn3 vn4 QV j0 j1 j2 j3 js jt jz
  rw [e6]
  clear e6
  generalize w5.heap.size = gx at *
  obtain ⟨r0, r1, r2, r3, r4, r5, f0, f1, f2, f3, f4, f5⟩ := rc_all HG
  go_wp2_with (first | (go_at_call 33; refine (HL.out _ gx HX QW.out gw).mono ?_; rintro e w7 ⟨rfl, hx7, hb7⟩; have hg7 := (hb7.block w.heap.size (by omega)).trans HG; have B7 : Below w.heap.size w w7 := B6.trans (hb7.mono (by omega)); clear r0 r1 r2 r3 r4 r5 f0 f1 f2 f3 f4 f5; obtain ⟨r0, r1, r2, r3, r4, r5, f0, f1, f2, f3, f4, f5⟩ := rc_all hg7; obtain ⟨x0, x1, x2, x3, x4, x5, y0, y1, y2, y3, y4, y5⟩ := rc_all hx7) | (go_at_call 10; refine (hM _).mono ?_; rintro e w8 ⟨rfl, hb8⟩; have hg8 := be_keep hb8 hg7; have hx8 := be_keep hb8 hx7; have B8 : Below w.heap.size w w8 := be_go hb8 B7 (Nat.le_refl _); clear r0 r1 r2 r3 r4 r5 f0 f1 f2 f3 f4 f5 x0 x1 x2 x3 x4 x5 y0 y1 y2 y3 y4 y5; obtain ⟨r0, r1, r2, r3, r4, r5, f0, f1, f2, f3, f4, f5⟩ := rc_all hg8; obtain ⟨x0, x1, x2, x3, x4, x5, y0, y1, y2, y3, y4, y5⟩ := rc_all hx8))
  exact bodyPost_ret (results_ct rfl _ _ w.heap.size 26 _ (0, 0) _ rfl (set6 hg8) Tryz.underlying26 rfl rfl) rfl ⟨rfl, set6_below B8 (Nat.le_refl _)⟩
set_option maxRecDepth 20000 in
set_option maxHeartbeats 4000000 in
theorem parse_m3_false (a0 : ByteArray) (xs : List ByteArray) (w : World) (s0 s1 s2 : ByteArray) (m : Int) (hx0 : xs[0]? = some s0) (hx1 : xs[1]? = some s1) (hx2 : xs[2]? = some s2)
  (hS : ∀ W : World, Below w.heap.size w W → Calls Tryz.prog 30 #[.string a0, .string ⟨#[32]⟩] W fun e w' => e = .returned (.slice (some ⟨W.heap.size, 0, none⟩) xs.length xs.length) ∧ Words W w' xs) (hl : decide ((xs.length : Int) < 3) = false)
  (hn : plist_number.f s0 = some m) (hm : (m == 0) = false) (hs1 : (s1.toList == [112, 101, 114, 109, 105, 116]) = false) (hs3 : (s1.toList == [100, 101, 110, 121]) = true) (A N : Int)
  (hA : ∀ W : World, Below w.heap.size w W → Calls Tryz.prog 32 #[.string s2] W fun e w' => e = .returned (.tuple #[.agg #[.int .u32 A, .int .i64 N], .int .i64 0]) ∧ Below W.heap.size W w') (ge le : Int) (hx3 : xs.length = 3) (hL : ∀ (W : World) (gx : Nat), W.heap[gx]? = some (ruleCells m false A N 0 0) → (∀ (j : Nat) (s : ByteArray), xs[j]? = some s → W.cell? ⟨w.heap.size + 1, j, none⟩ = some (.string s)) → w.heap.size + 1 < gx →
   Calls Tryz.prog 33 #[.pointer (some ⟨gx, 0, none⟩), .slice (some ⟨w.heap.size + 1, 0, none⟩) 0 0] W fun e w' => LimPost gx m false A N ge le true W e w') (hM : ∀ W : World, Calls Tryz.prog 10 #[.agg #[.int .i64 m, .bool false, .int .u32 A, .int .i64 N, .int .i64 ge, .int .i64 le]] W fun e w' => e = .returned (.bool false) ∧ Below W.heap.size W w') :
  Calls Tryz.prog 8 #[.string a0] w fun e w' => e = .returned (.tuple #[.agg #[.int .i64 0, .bool false, .int .u32 0, .int .i64 0, .int .i64 0, .int .i64 0], .int .i64 1]) ∧ Below w.heap.size w w' := by
 have h0 : 0 < (xs.length : Int) := by simp at hl; omega
 have h1 : 1 < (xs.length : Int) := by simp at hl; omega
 have h2 : 0 < xs.length := by omega
 have h3 : 1 < xs.length := by omega
 have h4 : ¬ (xs.length : Int) < 3 := by simp at hl; omega
 have h5 : 2 < (xs.length : Int) := by simp at hl; omega
 have h6 : 2 < xs.length := by omega
 have hc := fun W => plist_number.calls s0 m W hn
 clear hn
 have h3z : (3 : Int) ≤ (xs.length : Int) := by simp at hl; omega
 have HL := Aside0.mk hL
 clear hL
 go_enter Tryz.func8, Tryz.ntmps8
 go_wp2_with (first | (go_at_call 30; refine (hS _ (be_al _ (Below.refl _ _) (Nat.le_refl _))).mono ?_; rintro e w' ⟨rfl, hb, qs, qw⟩; replace qs : w.heap.size + 1 < w'.heap.size := (by simpa using qs); have q0 : w'.cell? ⟨w.heap.size + 1, 0, none⟩ = some (.string s0) := (by simpa using qw 0 s0 hx0); have q1 : w'.cell? ⟨w.heap.size + 1, 1, none⟩ = some (.string s1) := (by simpa using qw 1 s1 hx1); have q2 : w'.cell? ⟨w.heap.size + 1, 2, none⟩ = some (.string s2) := (by simpa using qw 2 s2 hx2); have hg := be_keep hb (al_mine w 0 false 0 0 0 0); have QW := Aside0.mk (show ∀ (j : Nat) (s : ByteArray), xs[j]? = some s → w'.cell? ⟨w.heap.size + 1, j, none⟩ = some (.string s) from fun j s hj => by simpa using qw j s hj); clear qw) | (go_at_call 31; refine (hc _).mono ?_; rintro e w2 ⟨rfl, hb2⟩; have z0 := be_cell hb2 q0; have z1 := be_cell hb2 q1; have z2 := be_cell hb2 q2; have hg2 := be_keep hb2 hg; obtain ⟨r0, r1, r2, r3, r4, r5, f0, f1, f2, f3, f4, f5⟩ := rc_all hg2) | (go_at_call 32; refine (hA _ (be_go hb2 (be_go hb (be_al _ (Below.refl _ _) (Nat.le_refl _)) (Nat.le_refl _)) (Nat.le_refl _))).mono ?_; rintro e w3 ⟨rfl, hb3⟩; have hg3 := be_keep hb3 hg2))
 all_goals obtain ⟨w5, e5, v2, v3, v0, v1, vg, vb, vs1, vs2, QV, vn1, vn2, vn3, vn4⟩ := mdf (A := A) (N := N) hb hb2 hb3 z0 z1 hg3 qs QW
 all_goals clear hb hb2 hb3 z0 z1 z2 hg hg2 hg3 q0 q1 q2 r0 r1 r2 r3 r4 r5 f0 f1 f2 f3 f4 f5 QW
 all_goals rw [e5]
 all_goals clear e5
 all_goals go_region_held3 (fun W => W.cell? ⟨w.heap.size + 1, 0, none⟩ = some (.string s0) ∧ W.cell? ⟨w.heap.size + 1, 1, none⟩ = some (.string s1) ∧ W.cell? ⟨w3.heap.size, 0, none⟩ = some (.int .u32 A) ∧ W.cell? ⟨w3.heap.size, 1, none⟩ = some (.int .i64 N)) (go_keep) (first | (go_at_call 31; refine (hc _).mono ?_; rintro e w4 ⟨rfl, hb4⟩; (first | (have ordA : True := trivial; have h54 : Below w5.heap.size w5 w4 := ((Below.refl _ _).drew).trans hb4) | (have ordB : True := trivial; have h54 : Below w5.heap.size w5 w4 := (((Below.refl _ _).drew).alloc (Nat.le_refl _) _).trans (hb4.mono (by simp)); have hgx0 := (hb4.block w5.heap.size (by simp)).trans (al_mine w5.drew 0 false 0 0 0 0); obtain ⟨x0, x1, x2, x3, x4, x5, fx0, fx1, fx2, fx3, fx4, fx5⟩ := rc_all hgx0)); have j0 := be_cell h54 v0; have j1 := be_cell h54 v1; have j2 := be_cell h54 v2; have j3 := be_cell h54 v3; have js := Nat.lt_of_lt_of_le vs1 h54.size; have jt := Nat.lt_of_lt_of_le vs2 h54.size; have jz := h54.size))
 ·have _t := ordA
  obtain ⟨w6, e6, HX, HG, QW, B6, gs, gw, bs⟩ := paf (m := m) (p := false) (A := A) (N := N) h54 vg vb QV js
  clear ordA
  clear h54 vg vb hb4 v0 v1 v2 v3 vs1 vs2 vn1 vn2 vn3 vn4 QV j0 j1 j2 j3 js jt jz
  rw [e6]
  clear e6
  generalize w4.heap.size = gx at *
  obtain ⟨r0, r1, r2, r3, r4, r5, f0, f1, f2, f3, f4, f5⟩ := rc_all HG
  go_wp2_with (first | (go_at_call 33; refine (HL.out _ gx HX QW.out gw).mono ?_; rintro e w7 ⟨rfl, hx7, hb7⟩; have hg7 := (hb7.block w.heap.size (by omega)).trans HG; have B7 : Below w.heap.size w w7 := B6.trans (hb7.mono (by omega)); clear r0 r1 r2 r3 r4 r5 f0 f1 f2 f3 f4 f5; obtain ⟨r0, r1, r2, r3, r4, r5, f0, f1, f2, f3, f4, f5⟩ := rc_all hg7; obtain ⟨x0, x1, x2, x3, x4, x5, y0, y1, y2, y3, y4, y5⟩ := rc_all hx7) | (go_at_call 10; refine (hM _).mono ?_; rintro e w8 ⟨rfl, hb8⟩; have hg8 := be_keep hb8 hg7; have hx8 := be_keep hb8 hx7; have B8 : Below w.heap.size w w8 := be_go hb8 B7 (Nat.le_refl _); clear r0 r1 r2 r3 r4 r5 f0 f1 f2 f3 f4 f5 x0 x1 x2 x3 x4 x5 y0 y1 y2 y3 y4 y5; obtain ⟨r0, r1, r2, r3, r4, r5, f0, f1, f2, f3, f4, f5⟩ := rc_all hg8; obtain ⟨x0, x1, x2, x3, x4, x5, y0, y1, y2, y3, y4, y5⟩ := rc_all hx8))
  exact bodyPost_ret (results_ct rfl _ _ w.heap.size 26 _ (0, 0) _ rfl (set6 hg8) Tryz.underlying26 rfl rfl) rfl ⟨rfl, set6_below B8 (Nat.le_refl _)⟩
 ·have _t := ordB
  obtain ⟨w6, e6, HX, HG, QW, B6, gs, gw, bs⟩ := pbf (m := m) (p := false) (A := A) (N := N) hgx0 h54 vg vb QV vs1
  clear ordB hgx0 x0 x1 x2 x3 x4 x5 fx0 fx1 fx2 fx3 fx4 fx5
  clear h54 vg vb hb4 v0 v1 v2 v3 vs1 vs2 vn1 vn2 vn3 vn4 QV j0 j1 j2 j3 js jt jz
  rw [e6]
  clear e6
  generalize w5.heap.size = gx at *
  obtain ⟨r0, r1, r2, r3, r4, r5, f0, f1, f2, f3, f4, f5⟩ := rc_all HG
  go_wp2_with (first | (go_at_call 33; refine (HL.out _ gx HX QW.out gw).mono ?_; rintro e w7 ⟨rfl, hx7, hb7⟩; have hg7 := (hb7.block w.heap.size (by omega)).trans HG; have B7 : Below w.heap.size w w7 := B6.trans (hb7.mono (by omega)); clear r0 r1 r2 r3 r4 r5 f0 f1 f2 f3 f4 f5; obtain ⟨r0, r1, r2, r3, r4, r5, f0, f1, f2, f3, f4, f5⟩ := rc_all hg7; obtain ⟨x0, x1, x2, x3, x4, x5, y0, y1, y2, y3, y4, y5⟩ := rc_all hx7) | (go_at_call 10; refine (hM _).mono ?_; rintro e w8 ⟨rfl, hb8⟩; have hg8 := be_keep hb8 hg7; have hx8 := be_keep hb8 hx7; have B8 : Below w.heap.size w w8 := be_go hb8 B7 (Nat.le_refl _); clear r0 r1 r2 r3 r4 r5 f0 f1 f2 f3 f4 f5 x0 x1 x2 x3 x4 x5 y0 y1 y2 y3 y4 y5; obtain ⟨r0, r1, r2, r3, r4, r5, f0, f1, f2, f3, f4, f5⟩ := rc_all hg8; obtain ⟨x0, x1, x2, x3, x4, x5, y0, y1, y2, y3, y4, y5⟩ := rc_all hx8))
  exact bodyPost_ret (results_ct rfl _ _ w.heap.size 26 _ (0, 0) _ rfl (set6 hg8) Tryz.underlying26 rfl rfl) rfl ⟨rfl, set6_below B8 (Nat.le_refl _)⟩
set_option maxRecDepth 20000 in
set_option maxHeartbeats 4000000 in
theorem parse_o3_true (a0 : ByteArray) (xs : List ByteArray) (w : World) (s0 s1 s2 : ByteArray) (m : Int) (hx0 : xs[0]? = some s0) (hx1 : xs[1]? = some s1) (hx2 : xs[2]? = some s2)
  (hS : ∀ W : World, Below w.heap.size w W → Calls Tryz.prog 30 #[.string a0, .string ⟨#[32]⟩] W fun e w' => e = .returned (.slice (some ⟨W.heap.size, 0, none⟩) xs.length xs.length) ∧ Words W w' xs) (hl : decide ((xs.length : Int) < 3) = false)
  (hn : plist_number.f s0 = some m) (hm : (m == 0) = false) (hs1 : (s1.toList == [112, 101, 114, 109, 105, 116]) = true)  (A N : Int)
  (hA : ∀ W : World, Below w.heap.size w W → Calls Tryz.prog 32 #[.string s2] W fun e w' => e = .returned (.tuple #[.agg #[.int .u32 A, .int .i64 N], .int .i64 0]) ∧ Below W.heap.size W w') (ge le : Int) (hx3 : xs.length = 3) (hL : ∀ (W : World) (gx : Nat), W.heap[gx]? = some (ruleCells m true A N 0 0) → (∀ (j : Nat) (s : ByteArray), xs[j]? = some s → W.cell? ⟨w.heap.size + 1, j, none⟩ = some (.string s)) → w.heap.size + 1 < gx →
   Calls Tryz.prog 33 #[.pointer (some ⟨gx, 0, none⟩), .slice (some ⟨w.heap.size + 1, 0, none⟩) 0 0] W fun e w' => LimPost gx m true A N ge le true W e w') (hM : ∀ W : World, Calls Tryz.prog 10 #[.agg #[.int .i64 m, .bool true, .int .u32 A, .int .i64 N, .int .i64 ge, .int .i64 le]] W fun e w' => e = .returned (.bool true) ∧ Below W.heap.size W w') :
  Calls Tryz.prog 8 #[.string a0] w fun e w' => e = .returned (.tuple #[.agg #[.int .i64 m, .bool true, .int .u32 A, .int .i64 N, .int .i64 ge, .int .i64 le], .int .i64 0]) ∧ Below w.heap.size w w' := by
 have h0 : 0 < (xs.length : Int) := by simp at hl; omega
 have h1 : 1 < (xs.length : Int) := by simp at hl; omega
 have h2 : 0 < xs.length := by omega
 have h3 : 1 < xs.length := by omega
 have h4 : ¬ (xs.length : Int) < 3 := by simp at hl; omega
 have h5 : 2 < (xs.length : Int) := by simp at hl; omega
 have h6 : 2 < xs.length := by omega
 have hc := fun W => plist_number.calls s0 m W hn
 clear hn
 have h3z : (3 : Int) ≤ (xs.length : Int) := by simp at hl; omega
 have HL := Aside0.mk hL
 clear hL
 go_enter Tryz.func8, Tryz.ntmps8
 go_wp2_with (first | (go_at_call 30; refine (hS _ (be_al _ (Below.refl _ _) (Nat.le_refl _))).mono ?_; rintro e w' ⟨rfl, hb, qs, qw⟩; replace qs : w.heap.size + 1 < w'.heap.size := (by simpa using qs); have q0 : w'.cell? ⟨w.heap.size + 1, 0, none⟩ = some (.string s0) := (by simpa using qw 0 s0 hx0); have q1 : w'.cell? ⟨w.heap.size + 1, 1, none⟩ = some (.string s1) := (by simpa using qw 1 s1 hx1); have q2 : w'.cell? ⟨w.heap.size + 1, 2, none⟩ = some (.string s2) := (by simpa using qw 2 s2 hx2); have hg := be_keep hb (al_mine w 0 false 0 0 0 0); have QW := Aside0.mk (show ∀ (j : Nat) (s : ByteArray), xs[j]? = some s → w'.cell? ⟨w.heap.size + 1, j, none⟩ = some (.string s) from fun j s hj => by simpa using qw j s hj); clear qw) | (go_at_call 31; refine (hc _).mono ?_; rintro e w2 ⟨rfl, hb2⟩; have z0 := be_cell hb2 q0; have z1 := be_cell hb2 q1; have z2 := be_cell hb2 q2; have hg2 := be_keep hb2 hg; obtain ⟨r0, r1, r2, r3, r4, r5, f0, f1, f2, f3, f4, f5⟩ := rc_all hg2) | (go_at_call 32; refine (hA _ (be_go hb2 (be_go hb (be_al _ (Below.refl _ _) (Nat.le_refl _)) (Nat.le_refl _)) (Nat.le_refl _))).mono ?_; rintro e w3 ⟨rfl, hb3⟩; have hg3 := be_keep hb3 hg2))
 all_goals obtain ⟨w5, e5, v2, v3, v0, v1, vg, vb, vs1, vs2, QV, vn1, vn2, vn3, vn4⟩ := mdf (A := A) (N := N) hb hb2 hb3 z0 z1 hg3 qs QW
 all_goals clear hb hb2 hb3 z0 z1 z2 hg hg2 hg3 q0 q1 q2 r0 r1 r2 r3 r4 r5 f0 f1 f2 f3 f4 f5 QW
 all_goals rw [e5]
 all_goals clear e5
 all_goals go_region_held3 (fun W => W.cell? ⟨w.heap.size + 1, 0, none⟩ = some (.string s0) ∧ W.cell? ⟨w.heap.size + 1, 1, none⟩ = some (.string s1) ∧ W.cell? ⟨w3.heap.size, 0, none⟩ = some (.int .u32 A) ∧ W.cell? ⟨w3.heap.size, 1, none⟩ = some (.int .i64 N)) (go_keep) (first | (go_at_call 31; refine (hc _).mono ?_; rintro e w4 ⟨rfl, hb4⟩; (first | (have ordA : True := trivial; have h54 : Below w5.heap.size w5 w4 := ((Below.refl _ _).drew).trans hb4) | (have ordB : True := trivial; have h54 : Below w5.heap.size w5 w4 := (((Below.refl _ _).drew).alloc (Nat.le_refl _) _).trans (hb4.mono (by simp)); have hgx0 := (hb4.block w5.heap.size (by simp)).trans (al_mine w5.drew 0 false 0 0 0 0); obtain ⟨x0, x1, x2, x3, x4, x5, fx0, fx1, fx2, fx3, fx4, fx5⟩ := rc_all hgx0)); have j0 := be_cell h54 v0; have j1 := be_cell h54 v1; have j2 := be_cell h54 v2; have j3 := be_cell h54 v3; have js := Nat.lt_of_lt_of_le vs1 h54.size; have jt := Nat.lt_of_lt_of_le vs2 h54.size; have jz := h54.size))
 ·have _t := ordA
  obtain ⟨w6, e6, HX, HG, QW, B6, gs, gw, bs⟩ := paf (m := m) (p := true) (A := A) (N := N) h54 vg vb QV js
  clear ordA
  clear h54 vg vb hb4 v0 v1 v2 v3 vs1 vs2 vn1 vn2 vn3 vn4 QV j0 j1 j2 j3 js jt jz
  rw [e6]
  clear e6
  generalize w4.heap.size = gx at *
  obtain ⟨r0, r1, r2, r3, r4, r5, f0, f1, f2, f3, f4, f5⟩ := rc_all HG
  go_wp2_with (first | (go_at_call 33; refine (HL.out _ gx HX QW.out gw).mono ?_; rintro e w7 ⟨rfl, hx7, hb7⟩; have hg7 := (hb7.block w.heap.size (by omega)).trans HG; have B7 : Below w.heap.size w w7 := B6.trans (hb7.mono (by omega)); clear r0 r1 r2 r3 r4 r5 f0 f1 f2 f3 f4 f5; obtain ⟨r0, r1, r2, r3, r4, r5, f0, f1, f2, f3, f4, f5⟩ := rc_all hg7; obtain ⟨x0, x1, x2, x3, x4, x5, y0, y1, y2, y3, y4, y5⟩ := rc_all hx7) | (go_at_call 10; refine (hM _).mono ?_; rintro e w8 ⟨rfl, hb8⟩; have hg8 := be_keep hb8 hg7; have hx8 := be_keep hb8 hx7; have B8 : Below w.heap.size w w8 := be_go hb8 B7 (Nat.le_refl _); clear r0 r1 r2 r3 r4 r5 f0 f1 f2 f3 f4 f5 x0 x1 x2 x3 x4 x5 y0 y1 y2 y3 y4 y5; obtain ⟨r0, r1, r2, r3, r4, r5, f0, f1, f2, f3, f4, f5⟩ := rc_all hg8; obtain ⟨x0, x1, x2, x3, x4, x5, y0, y1, y2, y3, y4, y5⟩ := rc_all hx8))
  exact bodyPost_ret (results_ct rfl _ _ w.heap.size 26 _ (0, 0) _ rfl (set6 hg8) Tryz.underlying26 rfl rfl) rfl ⟨rfl, set6_below B8 (Nat.le_refl _)⟩
 ·have _t := ordB
  obtain ⟨w6, e6, HX, HG, QW, B6, gs, gw, bs⟩ := pbf (m := m) (p := true) (A := A) (N := N) hgx0 h54 vg vb QV vs1
  clear ordB hgx0 x0 x1 x2 x3 x4 x5 fx0 fx1 fx2 fx3 fx4 fx5
  clear h54 vg vb hb4 v0 v1 v2 v3 vs1 vs2 vn1 vn2 vn3 vn4 QV j0 j1 j2 j3 js jt jz
  rw [e6]
  clear e6
  generalize w5.heap.size = gx at *
  obtain ⟨r0, r1, r2, r3, r4, r5, f0, f1, f2, f3, f4, f5⟩ := rc_all HG
  go_wp2_with (first | (go_at_call 33; refine (HL.out _ gx HX QW.out gw).mono ?_; rintro e w7 ⟨rfl, hx7, hb7⟩; have hg7 := (hb7.block w.heap.size (by omega)).trans HG; have B7 : Below w.heap.size w w7 := B6.trans (hb7.mono (by omega)); clear r0 r1 r2 r3 r4 r5 f0 f1 f2 f3 f4 f5; obtain ⟨r0, r1, r2, r3, r4, r5, f0, f1, f2, f3, f4, f5⟩ := rc_all hg7; obtain ⟨x0, x1, x2, x3, x4, x5, y0, y1, y2, y3, y4, y5⟩ := rc_all hx7) | (go_at_call 10; refine (hM _).mono ?_; rintro e w8 ⟨rfl, hb8⟩; have hg8 := be_keep hb8 hg7; have hx8 := be_keep hb8 hx7; have B8 : Below w.heap.size w w8 := be_go hb8 B7 (Nat.le_refl _); clear r0 r1 r2 r3 r4 r5 f0 f1 f2 f3 f4 f5 x0 x1 x2 x3 x4 x5 y0 y1 y2 y3 y4 y5; obtain ⟨r0, r1, r2, r3, r4, r5, f0, f1, f2, f3, f4, f5⟩ := rc_all hg8; obtain ⟨x0, x1, x2, x3, x4, x5, y0, y1, y2, y3, y4, y5⟩ := rc_all hx8))
  exact bodyPost_ret (results_ct rfl _ _ w.heap.size 26 _ (0, 0) _ rfl (set6 hg8) Tryz.underlying26 rfl rfl) rfl ⟨rfl, set6_below B8 (Nat.le_refl _)⟩
set_option maxRecDepth 20000 in
set_option maxHeartbeats 4000000 in
theorem parse_o3_false (a0 : ByteArray) (xs : List ByteArray) (w : World) (s0 s1 s2 : ByteArray) (m : Int) (hx0 : xs[0]? = some s0) (hx1 : xs[1]? = some s1) (hx2 : xs[2]? = some s2)
  (hS : ∀ W : World, Below w.heap.size w W → Calls Tryz.prog 30 #[.string a0, .string ⟨#[32]⟩] W fun e w' => e = .returned (.slice (some ⟨W.heap.size, 0, none⟩) xs.length xs.length) ∧ Words W w' xs) (hl : decide ((xs.length : Int) < 3) = false)
  (hn : plist_number.f s0 = some m) (hm : (m == 0) = false) (hs1 : (s1.toList == [112, 101, 114, 109, 105, 116]) = false) (hs3 : (s1.toList == [100, 101, 110, 121]) = true) (A N : Int)
  (hA : ∀ W : World, Below w.heap.size w W → Calls Tryz.prog 32 #[.string s2] W fun e w' => e = .returned (.tuple #[.agg #[.int .u32 A, .int .i64 N], .int .i64 0]) ∧ Below W.heap.size W w') (ge le : Int) (hx3 : xs.length = 3) (hL : ∀ (W : World) (gx : Nat), W.heap[gx]? = some (ruleCells m false A N 0 0) → (∀ (j : Nat) (s : ByteArray), xs[j]? = some s → W.cell? ⟨w.heap.size + 1, j, none⟩ = some (.string s)) → w.heap.size + 1 < gx →
   Calls Tryz.prog 33 #[.pointer (some ⟨gx, 0, none⟩), .slice (some ⟨w.heap.size + 1, 0, none⟩) 0 0] W fun e w' => LimPost gx m false A N ge le true W e w') (hM : ∀ W : World, Calls Tryz.prog 10 #[.agg #[.int .i64 m, .bool false, .int .u32 A, .int .i64 N, .int .i64 ge, .int .i64 le]] W fun e w' => e = .returned (.bool true) ∧ Below W.heap.size W w') :
  Calls Tryz.prog 8 #[.string a0] w fun e w' => e = .returned (.tuple #[.agg #[.int .i64 m, .bool false, .int .u32 A, .int .i64 N, .int .i64 ge, .int .i64 le], .int .i64 0]) ∧ Below w.heap.size w w' := by
 have h0 : 0 < (xs.length : Int) := by simp at hl; omega
 have h1 : 1 < (xs.length : Int) := by simp at hl; omega
 have h2 : 0 < xs.length := by omega
 have h3 : 1 < xs.length := by omega
 have h4 : ¬ (xs.length : Int) < 3 := by simp at hl; omega
 have h5 : 2 < (xs.length : Int) := by simp at hl; omega
 have h6 : 2 < xs.length := by omega
 have hc := fun W => plist_number.calls s0 m W hn
 clear hn
 have h3z : (3 : Int) ≤ (xs.length : Int) := by simp at hl; omega
 have HL := Aside0.mk hL
 clear hL
 go_enter Tryz.func8, Tryz.ntmps8
 go_wp2_with (first | (go_at_call 30; refine (hS _ (be_al _ (Below.refl _ _) (Nat.le_refl _))).mono ?_; rintro e w' ⟨rfl, hb, qs, qw⟩; replace qs : w.heap.size + 1 < w'.heap.size := (by simpa using qs); have q0 : w'.cell? ⟨w.heap.size + 1, 0, none⟩ = some (.string s0) := (by simpa using qw 0 s0 hx0); have q1 : w'.cell? ⟨w.heap.size + 1, 1, none⟩ = some (.string s1) := (by simpa using qw 1 s1 hx1); have q2 : w'.cell? ⟨w.heap.size + 1, 2, none⟩ = some (.string s2) := (by simpa using qw 2 s2 hx2); have hg := be_keep hb (al_mine w 0 false 0 0 0 0); have QW := Aside0.mk (show ∀ (j : Nat) (s : ByteArray), xs[j]? = some s → w'.cell? ⟨w.heap.size + 1, j, none⟩ = some (.string s) from fun j s hj => by simpa using qw j s hj); clear qw) | (go_at_call 31; refine (hc _).mono ?_; rintro e w2 ⟨rfl, hb2⟩; have z0 := be_cell hb2 q0; have z1 := be_cell hb2 q1; have z2 := be_cell hb2 q2; have hg2 := be_keep hb2 hg; obtain ⟨r0, r1, r2, r3, r4, r5, f0, f1, f2, f3, f4, f5⟩ := rc_all hg2) | (go_at_call 32; refine (hA _ (be_go hb2 (be_go hb (be_al _ (Below.refl _ _) (Nat.le_refl _)) (Nat.le_refl _)) (Nat.le_refl _))).mono ?_; rintro e w3 ⟨rfl, hb3⟩; have hg3 := be_keep hb3 hg2))
 all_goals obtain ⟨w5, e5, v2, v3, v0, v1, vg, vb, vs1, vs2, QV, vn1, vn2, vn3, vn4⟩ := mdf (A := A) (N := N) hb hb2 hb3 z0 z1 hg3 qs QW
 all_goals clear hb hb2 hb3 z0 z1 z2 hg hg2 hg3 q0 q1 q2 r0 r1 r2 r3 r4 r5 f0 f1 f2 f3 f4 f5 QW
 all_goals rw [e5]
 all_goals clear e5
 all_goals go_region_held3 (fun W => W.cell? ⟨w.heap.size + 1, 0, none⟩ = some (.string s0) ∧ W.cell? ⟨w.heap.size + 1, 1, none⟩ = some (.string s1) ∧ W.cell? ⟨w3.heap.size, 0, none⟩ = some (.int .u32 A) ∧ W.cell? ⟨w3.heap.size, 1, none⟩ = some (.int .i64 N)) (go_keep) (first | (go_at_call 31; refine (hc _).mono ?_; rintro e w4 ⟨rfl, hb4⟩; (first | (have ordA : True := trivial; have h54 : Below w5.heap.size w5 w4 := ((Below.refl _ _).drew).trans hb4) | (have ordB : True := trivial; have h54 : Below w5.heap.size w5 w4 := (((Below.refl _ _).drew).alloc (Nat.le_refl _) _).trans (hb4.mono (by simp)); have hgx0 := (hb4.block w5.heap.size (by simp)).trans (al_mine w5.drew 0 false 0 0 0 0); obtain ⟨x0, x1, x2, x3, x4, x5, fx0, fx1, fx2, fx3, fx4, fx5⟩ := rc_all hgx0)); have j0 := be_cell h54 v0; have j1 := be_cell h54 v1; have j2 := be_cell h54 v2; have j3 := be_cell h54 v3; have js := Nat.lt_of_lt_of_le vs1 h54.size; have jt := Nat.lt_of_lt_of_le vs2 h54.size; have jz := h54.size))
 ·have _t := ordA
  obtain ⟨w6, e6, HX, HG, QW, B6, gs, gw, bs⟩ := paf (m := m) (p := false) (A := A) (N := N) h54 vg vb QV js
  clear ordA
  clear h54 vg vb hb4 v0 v1 v2 v3 vs1 vs2 vn1 vn2 vn3 vn4 QV j0 j1 j2 j3 js jt jz
  rw [e6]
  clear e6
  generalize w4.heap.size = gx at *
  obtain ⟨r0, r1, r2, r3, r4, r5, f0, f1, f2, f3, f4, f5⟩ := rc_all HG
  go_wp2_with (first | (go_at_call 33; refine (HL.out _ gx HX QW.out gw).mono ?_; rintro e w7 ⟨rfl, hx7, hb7⟩; have hg7 := (hb7.block w.heap.size (by omega)).trans HG; have B7 : Below w.heap.size w w7 := B6.trans (hb7.mono (by omega)); clear r0 r1 r2 r3 r4 r5 f0 f1 f2 f3 f4 f5; obtain ⟨r0, r1, r2, r3, r4, r5, f0, f1, f2, f3, f4, f5⟩ := rc_all hg7; obtain ⟨x0, x1, x2, x3, x4, x5, y0, y1, y2, y3, y4, y5⟩ := rc_all hx7) | (go_at_call 10; refine (hM _).mono ?_; rintro e w8 ⟨rfl, hb8⟩; have hg8 := be_keep hb8 hg7; have hx8 := be_keep hb8 hx7; have B8 : Below w.heap.size w w8 := be_go hb8 B7 (Nat.le_refl _); clear r0 r1 r2 r3 r4 r5 f0 f1 f2 f3 f4 f5 x0 x1 x2 x3 x4 x5 y0 y1 y2 y3 y4 y5; obtain ⟨r0, r1, r2, r3, r4, r5, f0, f1, f2, f3, f4, f5⟩ := rc_all hg8; obtain ⟨x0, x1, x2, x3, x4, x5, y0, y1, y2, y3, y4, y5⟩ := rc_all hx8))
  exact bodyPost_ret (results_ct rfl _ _ w.heap.size 26 _ (0, 0) _ rfl (set6 hg8) Tryz.underlying26 rfl rfl) rfl ⟨rfl, set6_below B8 (Nat.le_refl _)⟩
 ·have _t := ordB
  obtain ⟨w6, e6, HX, HG, QW, B6, gs, gw, bs⟩ := pbf (m := m) (p := false) (A := A) (N := N) hgx0 h54 vg vb QV vs1
  clear ordB hgx0 x0 x1 x2 x3 x4 x5 fx0 fx1 fx2 fx3 fx4 fx5
  clear h54 vg vb hb4 v0 v1 v2 v3 vs1 vs2 vn1 vn2 vn3 vn4 QV j0 j1 j2 j3 js jt jz
  rw [e6]
  clear e6
  generalize w5.heap.size = gx at *
  obtain ⟨r0, r1, r2, r3, r4, r5, f0, f1, f2, f3, f4, f5⟩ := rc_all HG
  go_wp2_with (first | (go_at_call 33; refine (HL.out _ gx HX QW.out gw).mono ?_; rintro e w7 ⟨rfl, hx7, hb7⟩; have hg7 := (hb7.block w.heap.size (by omega)).trans HG; have B7 : Below w.heap.size w w7 := B6.trans (hb7.mono (by omega)); clear r0 r1 r2 r3 r4 r5 f0 f1 f2 f3 f4 f5; obtain ⟨r0, r1, r2, r3, r4, r5, f0, f1, f2, f3, f4, f5⟩ := rc_all hg7; obtain ⟨x0, x1, x2, x3, x4, x5, y0, y1, y2, y3, y4, y5⟩ := rc_all hx7) | (go_at_call 10; refine (hM _).mono ?_; rintro e w8 ⟨rfl, hb8⟩; have hg8 := be_keep hb8 hg7; have hx8 := be_keep hb8 hx7; have B8 : Below w.heap.size w w8 := be_go hb8 B7 (Nat.le_refl _); clear r0 r1 r2 r3 r4 r5 f0 f1 f2 f3 f4 f5 x0 x1 x2 x3 x4 x5 y0 y1 y2 y3 y4 y5; obtain ⟨r0, r1, r2, r3, r4, r5, f0, f1, f2, f3, f4, f5⟩ := rc_all hg8; obtain ⟨x0, x1, x2, x3, x4, x5, y0, y1, y2, y3, y4, y5⟩ := rc_all hx8))
  exact bodyPost_ret (results_ct rfl _ _ w.heap.size 26 _ (0, 0) _ rfl (set6 hg8) Tryz.underlying26 rfl rfl) rfl ⟨rfl, set6_below B8 (Nat.le_refl _)⟩
end Go.Proofs.YthngpkfckhmiiaaGreatDoor.X
end
section
set_option linter.unusedVariables false
set_option linter.unusedSimpArgs false
namespace Go.Proofs.YthngpkfckhmiiaaGreatDoor.X
open Go.RowKit Go.Proofs.YthngpkfckhmiiaaGreatDoorW.PrintWords Go.Proofs.YthngpkfckhmiiaaGreatDoor.Sl
set_option maxRecDepth 20000 in
set_option maxHeartbeats 4000000 in
theorem parse_ln_true (a0 : ByteArray) (xs : List ByteArray) (w : World) (s0 s1 s2 : ByteArray) (m : Int) (hx0 : xs[0]? = some s0) (hx1 : xs[1]? = some s1) (hx2 : xs[2]? = some s2)
  (hS : ∀ W : World, Below w.heap.size w W → Calls Tryz.prog 30 #[.string a0, .string ⟨#[32]⟩] W fun e w' => e = .returned (.slice (some ⟨W.heap.size, 0, none⟩) xs.length xs.length) ∧ Words W w' xs) (hl : decide ((xs.length : Int) < 3) = false)
  (hn : plist_number.f s0 = some m) (hm : (m == 0) = false) (hs1 : (s1.toList == [112, 101, 114, 109, 105, 116]) = true)  (A N e3 : Int)
  (hA : ∀ W : World, Below w.heap.size w W → Calls Tryz.prog 32 #[.string s2] W fun e w' => e = .returned (.tuple #[.agg #[.int .u32 A, .int .i64 N], .int .i64 e3]) ∧ Below W.heap.size W w') (he : (e3 == 3) = false) (ge le : Int) (hx3 : ¬ (xs.length = 3)) (hL : ∀ (W : World) (gx : Nat), W.heap[gx]? = some (ruleCells m true A N 0 0) → (∀ (j : Nat) (s : ByteArray), xs[j]? = some s → W.cell? ⟨w.heap.size + 1, j, none⟩ = some (.string s)) → w.heap.size + 1 < gx →
   Calls Tryz.prog 33 #[.pointer (some ⟨gx, 0, none⟩), .slice (some ⟨w.heap.size + 1, 3, none⟩) (xs.length - 3) (xs.length - 3)] W fun e w' => LimPost gx m true A N ge le false W e w') :
  Calls Tryz.prog 8 #[.string a0] w fun e w' => e = .returned (.tuple #[.agg #[.int .i64 0, .bool false, .int .u32 0, .int .i64 0, .int .i64 0, .int .i64 0], .int .i64 3]) ∧ Below w.heap.size w w' := by
 have h0 : 0 < (xs.length : Int) := by simp at hl; omega
 have h1 : 1 < (xs.length : Int) := by simp at hl; omega
 have h2 : 0 < xs.length := by omega
 have h3 : 1 < xs.length := by omega
 have h4 : ¬ (xs.length : Int) < 3 := by simp at hl; omega
 have h5 : 2 < (xs.length : Int) := by simp at hl; omega
 have h6 : 2 < xs.length := by omega
 have hc := fun W => plist_number.calls s0 m W hn
 clear hn
 have h3z : (3 : Int) ≤ (xs.length : Int) := by simp at hl; omega
 have HL := Aside0.mk hL
 clear hL
 go_enter Tryz.func8, Tryz.ntmps8
 go_wp2_with (first | (go_at_call 30; refine (hS _ (be_al _ (Below.refl _ _) (Nat.le_refl _))).mono ?_; rintro e w' ⟨rfl, hb, qs, qw⟩; replace qs : w.heap.size + 1 < w'.heap.size := (by simpa using qs); have q0 : w'.cell? ⟨w.heap.size + 1, 0, none⟩ = some (.string s0) := (by simpa using qw 0 s0 hx0); have q1 : w'.cell? ⟨w.heap.size + 1, 1, none⟩ = some (.string s1) := (by simpa using qw 1 s1 hx1); have q2 : w'.cell? ⟨w.heap.size + 1, 2, none⟩ = some (.string s2) := (by simpa using qw 2 s2 hx2); have hg := be_keep hb (al_mine w 0 false 0 0 0 0); have QW := Aside0.mk (show ∀ (j : Nat) (s : ByteArray), xs[j]? = some s → w'.cell? ⟨w.heap.size + 1, j, none⟩ = some (.string s) from fun j s hj => by simpa using qw j s hj); clear qw) | (go_at_call 31; refine (hc _).mono ?_; rintro e w2 ⟨rfl, hb2⟩; have z0 := be_cell hb2 q0; have z1 := be_cell hb2 q1; have z2 := be_cell hb2 q2; have hg2 := be_keep hb2 hg; obtain ⟨r0, r1, r2, r3, r4, r5, f0, f1, f2, f3, f4, f5⟩ := rc_all hg2) | (go_at_call 32; refine (hA _ (be_go hb2 (be_go hb (be_al _ (Below.refl _ _) (Nat.le_refl _)) (Nat.le_refl _)) (Nat.le_refl _))).mono ?_; rintro e w3 ⟨rfl, hb3⟩; have hg3 := be_keep hb3 hg2))
 all_goals obtain ⟨w5, e5, v2, v3, v0, v1, vg, vb, vs1, vs2, QV, vn1, vn2, vn3, vn4⟩ := mdf (A := A) (N := N) hb hb2 hb3 z0 z1 hg3 qs QW
 all_goals clear hb hb2 hb3 z0 z1 z2 hg hg2 hg3 q0 q1 q2 r0 r1 r2 r3 r4 r5 f0 f1 f2 f3 f4 f5 QW
 all_goals rw [e5]
 all_goals clear e5
 all_goals go_region_held3 (fun W => W.cell? ⟨w.heap.size + 1, 0, none⟩ = some (.string s0) ∧ W.cell? ⟨w.heap.size + 1, 1, none⟩ = some (.string s1) ∧ W.cell? ⟨w3.heap.size, 0, none⟩ = some (.int .u32 A) ∧ W.cell? ⟨w3.heap.size, 1, none⟩ = some (.int .i64 N)) (go_keep) (first | (go_at_call 31; refine (hc _).mono ?_; rintro e w4 ⟨rfl, hb4⟩; (first | (have ordA : True := trivial; have h54 : Below w5.heap.size w5 w4 := ((Below.refl _ _).drew).trans hb4) | (have ordB : True := trivial; have h54 : Below w5.heap.size w5 w4 := (((Below.refl _ _).drew).alloc (Nat.le_refl _) _).trans (hb4.mono (by simp)); have hgx0 := (hb4.block w5.heap.size (by simp)).trans (al_mine w5.drew 0 false 0 0 0 0); obtain ⟨x0, x1, x2, x3, x4, x5, fx0, fx1, fx2, fx3, fx4, fx5⟩ := rc_all hgx0)); have j0 := be_cell h54 v0; have j1 := be_cell h54 v1; have j2 := be_cell h54 v2; have j3 := be_cell h54 v3; have js := Nat.lt_of_lt_of_le vs1 h54.size; have jt := Nat.lt_of_lt_of_le vs2 h54.size; have jz := h54.size))
 ·have _t := ordA
  obtain ⟨w6, e6, HX, HG, QW, B6, gs, gw, bs⟩ := paf (m := m) (p := true) (A := A) (N := N) h54 vg vb QV js
  clear ordA
  clear h54 vg vb hb4 v0 v1 v2 v3 vs1 vs2 vn1 vn2 vn3 vn4 QV j0 j1 j2 j3 js jt jz
  rw [e6]
  clear e6
  generalize w4.heap.size = gx at *
  obtain ⟨r0, r1, r2, r3, r4, r5, f0, f1, f2, f3, f4, f5⟩ := rc_all HG
  go_wp2_with (go_at_call 33; refine (HL.out _ gx HX QW.out gw).mono ?_; rintro e w7 ⟨rfl, hx7, hb7⟩; have hg7 := (hb7.block w.heap.size (by omega)).trans HG; have B7 : Below w.heap.size w w7 := B6.trans (hb7.mono (by omega)); clear r0 r1 r2 r3 r4 r5 f0 f1 f2 f3 f4 f5; obtain ⟨r0, r1, r2, r3, r4, r5, f0, f1, f2, f3, f4, f5⟩ := rc_all hg7; obtain ⟨x0, x1, x2, x3, x4, x5, y0, y1, y2, y3, y4, y5⟩ := rc_all hx7)
  exact bodyPost_ret (results_ct rfl _ _ w.heap.size 26 _ (0, 0) _ rfl (set6 hg7) Tryz.underlying26 rfl rfl) rfl ⟨rfl, set6_below B7 (Nat.le_refl _)⟩
 ·have _t := ordB
  obtain ⟨w6, e6, HX, HG, QW, B6, gs, gw, bs⟩ := pbf (m := m) (p := true) (A := A) (N := N) hgx0 h54 vg vb QV vs1
  clear ordB hgx0 x0 x1 x2 x3 x4 x5 fx0 fx1 fx2 fx3 fx4 fx5
  clear h54 vg vb hb4 v0 v1 v2 v3 vs1 vs2 vn1 vn2 vn3 vn4 QV j0 j1 j2 j3 js jt jz
  rw [e6]
  clear e6
  generalize w5.heap.size = gx at *
  obtain ⟨r0, r1, r2, r3, r4, r5, f0, f1, f2, f3, f4, f5⟩ := rc_all HG
  go_wp2_with (go_at_call 33; refine (HL.out _ gx HX QW.out gw).mono ?_; rintro e w7 ⟨rfl, hx7, hb7⟩; have hg7 := (hb7.block w.heap.size (by omega)).trans HG; have B7 : Below w.heap.size w w7 := B6.trans (hb7.mono (by omega)); clear r0 r1 r2 r3 r4 r5 f0 f1 f2 f3 f4 f5; obtain ⟨r0, r1, r2, r3, r4, r5, f0, f1, f2, f3, f4, f5⟩ := rc_all hg7; obtain ⟨x0, x1, x2, x3, x4, x5, y0, y1, y2, y3, y4, y5⟩ := rc_all hx7)
  exact bodyPost_ret (results_ct rfl _ _ w.heap.size 26 _ (0, 0) _ rfl (set6 hg7) Tryz.underlying26 rfl rfl) rfl ⟨rfl, set6_below B7 (Nat.le_refl _)⟩
set_option maxRecDepth 20000 in
set_option maxHeartbeats 4000000 in
theorem parse_ln_false (a0 : ByteArray) (xs : List ByteArray) (w : World) (s0 s1 s2 : ByteArray) (m : Int) (hx0 : xs[0]? = some s0) (hx1 : xs[1]? = some s1) (hx2 : xs[2]? = some s2)
  (hS : ∀ W : World, Below w.heap.size w W → Calls Tryz.prog 30 #[.string a0, .string ⟨#[32]⟩] W fun e w' => e = .returned (.slice (some ⟨W.heap.size, 0, none⟩) xs.length xs.length) ∧ Words W w' xs) (hl : decide ((xs.length : Int) < 3) = false)
  (hn : plist_number.f s0 = some m) (hm : (m == 0) = false) (hs1 : (s1.toList == [112, 101, 114, 109, 105, 116]) = false) (hs3 : (s1.toList == [100, 101, 110, 121]) = true) (A N e3 : Int)
  (hA : ∀ W : World, Below w.heap.size w W → Calls Tryz.prog 32 #[.string s2] W fun e w' => e = .returned (.tuple #[.agg #[.int .u32 A, .int .i64 N], .int .i64 e3]) ∧ Below W.heap.size W w') (he : (e3 == 3) = false) (ge le : Int) (hx3 : ¬ (xs.length = 3)) (hL : ∀ (W : World) (gx : Nat), W.heap[gx]? = some (ruleCells m false A N 0 0) → (∀ (j : Nat) (s : ByteArray), xs[j]? = some s → W.cell? ⟨w.heap.size + 1, j, none⟩ = some (.string s)) → w.heap.size + 1 < gx →
   Calls Tryz.prog 33 #[.pointer (some ⟨gx, 0, none⟩), .slice (some ⟨w.heap.size + 1, 3, none⟩) (xs.length - 3) (xs.length - 3)] W fun e w' => LimPost gx m false A N ge le false W e w') :
  Calls Tryz.prog 8 #[.string a0] w fun e w' => e = .returned (.tuple #[.agg #[.int .i64 0, .bool false, .int .u32 0, .int .i64 0, .int .i64 0, .int .i64 0], .int .i64 3]) ∧ Below w.heap.size w w' := by
 have h0 : 0 < (xs.length : Int) := by simp at hl; omega
 have h1 : 1 < (xs.length : Int) := by simp at hl; omega
 have h2 : 0 < xs.length := by omega
 have h3 : 1 < xs.length := by omega
 have h4 : ¬ (xs.length : Int) < 3 := by simp at hl; omega
 have h5 : 2 < (xs.length : Int) := by simp at hl; omega
 have h6 : 2 < xs.length := by omega
 have hc := fun W => plist_number.calls s0 m W hn
 clear hn
 have h3z : (3 : Int) ≤ (xs.length : Int) := by simp at hl; omega
 have HL := Aside0.mk hL
 clear hL
 go_enter Tryz.func8, Tryz.ntmps8
 go_wp2_with (first | (go_at_call 30; refine (hS _ (be_al _ (Below.refl _ _) (Nat.le_refl _))).mono ?_; rintro e w' ⟨rfl, hb, qs, qw⟩; replace qs : w.heap.size + 1 < w'.heap.size := (by simpa using qs); have q0 : w'.cell? ⟨w.heap.size + 1, 0, none⟩ = some (.string s0) := (by simpa using qw 0 s0 hx0); have q1 : w'.cell? ⟨w.heap.size + 1, 1, none⟩ = some (.string s1) := (by simpa using qw 1 s1 hx1); have q2 : w'.cell? ⟨w.heap.size + 1, 2, none⟩ = some (.string s2) := (by simpa using qw 2 s2 hx2); have hg := be_keep hb (al_mine w 0 false 0 0 0 0); have QW := Aside0.mk (show ∀ (j : Nat) (s : ByteArray), xs[j]? = some s → w'.cell? ⟨w.heap.size + 1, j, none⟩ = some (.string s) from fun j s hj => by simpa using qw j s hj); clear qw) | (go_at_call 31; refine (hc _).mono ?_; rintro e w2 ⟨rfl, hb2⟩; have z0 := be_cell hb2 q0; have z1 := be_cell hb2 q1; have z2 := be_cell hb2 q2; have hg2 := be_keep hb2 hg; obtain ⟨r0, r1, r2, r3, r4, r5, f0, f1, f2, f3, f4, f5⟩ := rc_all hg2) | (go_at_call 32; refine (hA _ (be_go hb2 (be_go hb (be_al _ (Below.refl _ _) (Nat.le_refl _)) (Nat.le_refl _)) (Nat.le_refl _))).mono ?_; rintro e w3 ⟨rfl, hb3⟩; have hg3 := be_keep hb3 hg2))
 all_goals obtain ⟨w5, e5, v2, v3, v0, v1, vg, vb, vs1, vs2, QV, vn1, vn2, vn3, vn4⟩ := mdf (A := A) (N := N) hb hb2 hb3 z0 z1 hg3 qs QW
 all_goals clear hb hb2 hb3 z0 z1 z2 hg hg2 hg3 q0 q1 q2 r0 r1 r2 r3 r4 r5 f0 f1 f2 f3 f4 f5 QW
 all_goals rw [e5]
 all_goals clear e5
 all_goals go_region_held3 (fun W => W.cell? ⟨w.heap.size + 1, 0, none⟩ = some (.string s0) ∧ W.cell? ⟨w.heap.size + 1, 1, none⟩ = some (.string s1) ∧ W.cell? ⟨w3.heap.size, 0, none⟩ = some (.int .u32 A) ∧ W.cell? ⟨w3.heap.size, 1, none⟩ = some (.int .i64 N)) (go_keep) (first | (go_at_call 31; refine (hc _).mono ?_; rintro e w4 ⟨rfl, hb4⟩; (first | (have ordA : True := trivial; have h54 : Below w5.heap.size w5 w4 := ((Below.refl _ _).drew).trans hb4) | (have ordB : True := trivial; have h54 : Below w5.heap.size w5 w4 := (((Below.refl _ _).drew).alloc (Nat.le_refl _) _).trans (hb4.mono (by simp)); have hgx0 := (hb4.block w5.heap.size (by simp)).trans (al_mine w5.drew 0 false 0 0 0 0); obtain ⟨x0, x1, x2, x3, x4, x5, fx0, fx1, fx2, fx3, fx4, fx5⟩ := rc_all hgx0)); have j0 := be_cell h54 v0; have j1 := be_cell h54 v1; have j2 := be_cell h54 v2; have j3 := be_cell h54 v3; have js := Nat.lt_of_lt_of_le vs1 h54.size; have jt := Nat.lt_of_lt_of_le vs2 h54.size; have jz := h54.size))
 ·have _t := ordA
  obtain ⟨w6, e6, HX, HG, QW, B6, gs, gw, bs⟩ := paf (m := m) (p := false) (A := A) (N := N) h54 vg vb QV js
  clear ordA
  clear h54 vg vb hb4 v0 v1 v2 v3 vs1 vs2 vn1 vn2 vn3 vn4 QV j0 j1 j2 j3 js jt jz
  rw [e6]
  clear e6
  generalize w4.heap.size = gx at *
  obtain ⟨r0, r1, r2, r3, r4, r5, f0, f1, f2, f3, f4, f5⟩ := rc_all HG
  go_wp2_with (go_at_call 33; refine (HL.out _ gx HX QW.out gw).mono ?_; rintro e w7 ⟨rfl, hx7, hb7⟩; have hg7 := (hb7.block w.heap.size (by omega)).trans HG; have B7 : Below w.heap.size w w7 := B6.trans (hb7.mono (by omega)); clear r0 r1 r2 r3 r4 r5 f0 f1 f2 f3 f4 f5; obtain ⟨r0, r1, r2, r3, r4, r5, f0, f1, f2, f3, f4, f5⟩ := rc_all hg7; obtain ⟨x0, x1, x2, x3, x4, x5, y0, y1, y2, y3, y4, y5⟩ := rc_all hx7)
  exact bodyPost_ret (results_ct rfl _ _ w.heap.size 26 _ (0, 0) _ rfl (set6 hg7) Tryz.underlying26 rfl rfl) rfl ⟨rfl, set6_below B7 (Nat.le_refl _)⟩
 ·have _t := ordB
  obtain ⟨w6, e6, HX, HG, QW, B6, gs, gw, bs⟩ := pbf (m := m) (p := false) (A := A) (N := N) hgx0 h54 vg vb QV vs1
  clear ordB hgx0 x0 x1 x2 x3 x4 x5 fx0 fx1 fx2 fx3 fx4 fx5
  clear h54 vg vb hb4 v0 v1 v2 v3 vs1 vs2 vn1 vn2 vn3 vn4 QV j0 j1 j2 j3 js jt jz
  rw [e6]
  clear e6
  generalize w5.heap.size = gx at *
  obtain ⟨r0, r1, r2, r3, r4, r5, f0, f1, f2, f3, f4, f5⟩ := rc_all HG
  go_wp2_with (go_at_call 33; refine (HL.out _ gx HX QW.out gw).mono ?_; rintro e w7 ⟨rfl, hx7, hb7⟩; have hg7 := (hb7.block w.heap.size (by omega)).trans HG; have B7 : Below w.heap.size w w7 := B6.trans (hb7.mono (by omega)); clear r0 r1 r2 r3 r4 r5 f0 f1 f2 f3 f4 f5; obtain ⟨r0, r1, r2, r3, r4, r5, f0, f1, f2, f3, f4, f5⟩ := rc_all hg7; obtain ⟨x0, x1, x2, x3, x4, x5, y0, y1, y2, y3, y4, y5⟩ := rc_all hx7)
  exact bodyPost_ret (results_ct rfl _ _ w.heap.size 26 _ (0, 0) _ rfl (set6 hg7) Tryz.underlying26 rfl rfl) rfl ⟨rfl, set6_below B7 (Nat.le_refl _)⟩
set_option maxRecDepth 20000 in
set_option maxHeartbeats 4000000 in
theorem parse_en_true (a0 : ByteArray) (xs : List ByteArray) (w : World) (s0 s1 s2 : ByteArray) (m : Int) (hx0 : xs[0]? = some s0) (hx1 : xs[1]? = some s1) (hx2 : xs[2]? = some s2)
  (hS : ∀ W : World, Below w.heap.size w W → Calls Tryz.prog 30 #[.string a0, .string ⟨#[32]⟩] W fun e w' => e = .returned (.slice (some ⟨W.heap.size, 0, none⟩) xs.length xs.length) ∧ Words W w' xs) (hl : decide ((xs.length : Int) < 3) = false)
  (hn : plist_number.f s0 = some m) (hm : (m == 0) = false) (hs1 : (s1.toList == [112, 101, 114, 109, 105, 116]) = true)  (A N e3 : Int)
  (hA : ∀ W : World, Below w.heap.size w W → Calls Tryz.prog 32 #[.string s2] W fun e w' => e = .returned (.tuple #[.agg #[.int .u32 A, .int .i64 N], .int .i64 e3]) ∧ Below W.heap.size W w') (he : (e3 == 3) = false) (he0 : (e3 != 0) = true) (ge le : Int) (hx3 : ¬ (xs.length = 3)) (hL : ∀ (W : World) (gx : Nat), W.heap[gx]? = some (ruleCells m true A N 0 0) → (∀ (j : Nat) (s : ByteArray), xs[j]? = some s → W.cell? ⟨w.heap.size + 1, j, none⟩ = some (.string s)) → w.heap.size + 1 < gx →
   Calls Tryz.prog 33 #[.pointer (some ⟨gx, 0, none⟩), .slice (some ⟨w.heap.size + 1, 3, none⟩) (xs.length - 3) (xs.length - 3)] W fun e w' => LimPost gx m true A N ge le true W e w') :
  Calls Tryz.prog 8 #[.string a0] w fun e w' => e = .returned (.tuple #[.agg #[.int .i64 0, .bool false, .int .u32 0, .int .i64 0, .int .i64 0, .int .i64 0], .int .i64 1]) ∧ Below w.heap.size w w' := by
 have h0 : 0 < (xs.length : Int) := by simp at hl; omega
 have h1 : 1 < (xs.length : Int) := by simp at hl; omega
 have h2 : 0 < xs.length := by omega
 have h3 : 1 < xs.length := by omega
 have h4 : ¬ (xs.length : Int) < 3 := by simp at hl; omega
 have h5 : 2 < (xs.length : Int) := by simp at hl; omega
 have h6 : 2 < xs.length := by omega
 have hc := fun W => plist_number.calls s0 m W hn
 clear hn
 have h3z : (3 : Int) ≤ (xs.length : Int) := by simp at hl; omega
 have HL := Aside0.mk hL
 clear hL
 go_enter Tryz.func8, Tryz.ntmps8
 go_wp2_with (first | (go_at_call 30; refine (hS _ (be_al _ (Below.refl _ _) (Nat.le_refl _))).mono ?_; rintro e w' ⟨rfl, hb, qs, qw⟩; replace qs : w.heap.size + 1 < w'.heap.size := (by simpa using qs); have q0 : w'.cell? ⟨w.heap.size + 1, 0, none⟩ = some (.string s0) := (by simpa using qw 0 s0 hx0); have q1 : w'.cell? ⟨w.heap.size + 1, 1, none⟩ = some (.string s1) := (by simpa using qw 1 s1 hx1); have q2 : w'.cell? ⟨w.heap.size + 1, 2, none⟩ = some (.string s2) := (by simpa using qw 2 s2 hx2); have hg := be_keep hb (al_mine w 0 false 0 0 0 0); have QW := Aside0.mk (show ∀ (j : Nat) (s : ByteArray), xs[j]? = some s → w'.cell? ⟨w.heap.size + 1, j, none⟩ = some (.string s) from fun j s hj => by simpa using qw j s hj); clear qw) | (go_at_call 31; refine (hc _).mono ?_; rintro e w2 ⟨rfl, hb2⟩; have z0 := be_cell hb2 q0; have z1 := be_cell hb2 q1; have z2 := be_cell hb2 q2; have hg2 := be_keep hb2 hg; obtain ⟨r0, r1, r2, r3, r4, r5, f0, f1, f2, f3, f4, f5⟩ := rc_all hg2) | (go_at_call 32; refine (hA _ (be_go hb2 (be_go hb (be_al _ (Below.refl _ _) (Nat.le_refl _)) (Nat.le_refl _)) (Nat.le_refl _))).mono ?_; rintro e w3 ⟨rfl, hb3⟩; have hg3 := be_keep hb3 hg2))
 all_goals obtain ⟨w5, e5, v2, v3, v0, v1, vg, vb, vs1, vs2, QV, vn1, vn2, vn3, vn4⟩ := mdf (A := A) (N := N) hb hb2 hb3 z0 z1 hg3 qs QW
 all_goals clear hb hb2 hb3 z0 z1 z2 hg hg2 hg3 q0 q1 q2 r0 r1 r2 r3 r4 r5 f0 f1 f2 f3 f4 f5 QW
 all_goals rw [e5]
 all_goals clear e5
 all_goals go_region_held3 (fun W => W.cell? ⟨w.heap.size + 1, 0, none⟩ = some (.string s0) ∧ W.cell? ⟨w.heap.size + 1, 1, none⟩ = some (.string s1) ∧ W.cell? ⟨w3.heap.size, 0, none⟩ = some (.int .u32 A) ∧ W.cell? ⟨w3.heap.size, 1, none⟩ = some (.int .i64 N)) (go_keep) (first | (go_at_call 31; refine (hc _).mono ?_; rintro e w4 ⟨rfl, hb4⟩; (first | (have ordA : True := trivial; have h54 : Below w5.heap.size w5 w4 := ((Below.refl _ _).drew).trans hb4) | (have ordB : True := trivial; have h54 : Below w5.heap.size w5 w4 := (((Below.refl _ _).drew).alloc (Nat.le_refl _) _).trans (hb4.mono (by simp)); have hgx0 := (hb4.block w5.heap.size (by simp)).trans (al_mine w5.drew 0 false 0 0 0 0); obtain ⟨x0, x1, x2, x3, x4, x5, fx0, fx1, fx2, fx3, fx4, fx5⟩ := rc_all hgx0)); have j0 := be_cell h54 v0; have j1 := be_cell h54 v1; have j2 := be_cell h54 v2; have j3 := be_cell h54 v3; have js := Nat.lt_of_lt_of_le vs1 h54.size; have jt := Nat.lt_of_lt_of_le vs2 h54.size; have jz := h54.size))
 ·have _t := ordA
  obtain ⟨w6, e6, HX, HG, QW, B6, gs, gw, bs⟩ := paf (m := m) (p := true) (A := A) (N := N) h54 vg vb QV js
  clear ordA
  clear h54 vg vb hb4 v0 v1 v2 v3 vs1 vs2 vn1 vn2 vn3 vn4 QV j0 j1 j2 j3 js jt jz
  rw [e6]
  clear e6
  generalize w4.heap.size = gx at *
  obtain ⟨r0, r1, r2, r3, r4, r5, f0, f1, f2, f3, f4, f5⟩ := rc_all HG
  go_wp2_with (go_at_call 33; refine (HL.out _ gx HX QW.out gw).mono ?_; rintro e w7 ⟨rfl, hx7, hb7⟩; have hg7 := (hb7.block w.heap.size (by omega)).trans HG; have B7 : Below w.heap.size w w7 := B6.trans (hb7.mono (by omega)); clear r0 r1 r2 r3 r4 r5 f0 f1 f2 f3 f4 f5; obtain ⟨r0, r1, r2, r3, r4, r5, f0, f1, f2, f3, f4, f5⟩ := rc_all hg7; obtain ⟨x0, x1, x2, x3, x4, x5, y0, y1, y2, y3, y4, y5⟩ := rc_all hx7)
  exact bodyPost_ret (results_ct rfl _ _ w.heap.size 26 _ (0, 0) _ rfl (set6 hg7) Tryz.underlying26 rfl rfl) rfl ⟨rfl, set6_below B7 (Nat.le_refl _)⟩
 ·have _t := ordB
  obtain ⟨w6, e6, HX, HG, QW, B6, gs, gw, bs⟩ := pbf (m := m) (p := true) (A := A) (N := N) hgx0 h54 vg vb QV vs1
  clear ordB hgx0 x0 x1 x2 x3 x4 x5 fx0 fx1 fx2 fx3 fx4 fx5
  clear h54 vg vb hb4 v0 v1 v2 v3 vs1 vs2 vn1 vn2 vn3 vn4 QV j0 j1 j2 j3 js jt jz
  rw [e6]
  clear e6
  generalize w5.heap.size = gx at *
  obtain ⟨r0, r1, r2, r3, r4, r5, f0, f1, f2, f3, f4, f5⟩ := rc_all HG
  go_wp2_with (go_at_call 33; refine (HL.out _ gx HX QW.out gw).mono ?_; rintro e w7 ⟨rfl, hx7, hb7⟩; have hg7 := (hb7.block w.heap.size (by omega)).trans HG; have B7 : Below w.heap.size w w7 := B6.trans (hb7.mono (by omega)); clear r0 r1 r2 r3 r4 r5 f0 f1 f2 f3 f4 f5; obtain ⟨r0, r1, r2, r3, r4, r5, f0, f1, f2, f3, f4, f5⟩ := rc_all hg7; obtain ⟨x0, x1, x2, x3, x4, x5, y0, y1, y2, y3, y4, y5⟩ := rc_all hx7)
  exact bodyPost_ret (results_ct rfl _ _ w.heap.size 26 _ (0, 0) _ rfl (set6 hg7) Tryz.underlying26 rfl rfl) rfl ⟨rfl, set6_below B7 (Nat.le_refl _)⟩
set_option maxRecDepth 20000 in
set_option maxHeartbeats 4000000 in
theorem parse_en_false (a0 : ByteArray) (xs : List ByteArray) (w : World) (s0 s1 s2 : ByteArray) (m : Int) (hx0 : xs[0]? = some s0) (hx1 : xs[1]? = some s1) (hx2 : xs[2]? = some s2)
  (hS : ∀ W : World, Below w.heap.size w W → Calls Tryz.prog 30 #[.string a0, .string ⟨#[32]⟩] W fun e w' => e = .returned (.slice (some ⟨W.heap.size, 0, none⟩) xs.length xs.length) ∧ Words W w' xs) (hl : decide ((xs.length : Int) < 3) = false)
  (hn : plist_number.f s0 = some m) (hm : (m == 0) = false) (hs1 : (s1.toList == [112, 101, 114, 109, 105, 116]) = false) (hs3 : (s1.toList == [100, 101, 110, 121]) = true) (A N e3 : Int)
  (hA : ∀ W : World, Below w.heap.size w W → Calls Tryz.prog 32 #[.string s2] W fun e w' => e = .returned (.tuple #[.agg #[.int .u32 A, .int .i64 N], .int .i64 e3]) ∧ Below W.heap.size W w') (he : (e3 == 3) = false) (he0 : (e3 != 0) = true) (ge le : Int) (hx3 : ¬ (xs.length = 3)) (hL : ∀ (W : World) (gx : Nat), W.heap[gx]? = some (ruleCells m false A N 0 0) → (∀ (j : Nat) (s : ByteArray), xs[j]? = some s → W.cell? ⟨w.heap.size + 1, j, none⟩ = some (.string s)) → w.heap.size + 1 < gx →
   Calls Tryz.prog 33 #[.pointer (some ⟨gx, 0, none⟩), .slice (some ⟨w.heap.size + 1, 3, none⟩) (xs.length - 3) (xs.length - 3)] W fun e w' => LimPost gx m false A N ge le true W e w') :
  Calls Tryz.prog 8 #[.string a0] w fun e w' => e = .returned (.tuple #[.agg #[.int .i64 0, .bool false, .int .u32 0, .int .i64 0, .int .i64 0, .int .i64 0], .int .i64 1]) ∧ Below w.heap.size w w' := by
 have h0 : 0 < (xs.length : Int) := by simp at hl; omega
 have h1 : 1 < (xs.length : Int) := by simp at hl; omega
 have h2 : 0 < xs.length := by omega
 have h3 : 1 < xs.length := by omega
 have h4 : ¬ (xs.length : Int) < 3 := by simp at hl; omega
 have h5 : 2 < (xs.length : Int) := by simp at hl; omega
 have h6 : 2 < xs.length := by omega
 have hc := fun W => plist_number.calls s0 m W hn
 clear hn
 have h3z : (3 : Int) ≤ (xs.length : Int) := by simp at hl; omega
 have HL := Aside0.mk hL
 clear hL
 go_enter Tryz.func8, Tryz.ntmps8
 go_wp2_with (first | (go_at_call 30; refine (hS _ (be_al _ (Below.refl _ _) (Nat.le_refl _))).mono ?_; rintro e w' ⟨rfl, hb, qs, qw⟩; replace qs : w.heap.size + 1 < w'.heap.size := (by simpa using qs); have q0 : w'.cell? ⟨w.heap.size + 1, 0, none⟩ = some (.string s0) := (by simpa using qw 0 s0 hx0); have q1 : w'.cell? ⟨w.heap.size + 1, 1, none⟩ = some (.string s1) := (by simpa using qw 1 s1 hx1); have q2 : w'.cell? ⟨w.heap.size + 1, 2, none⟩ = some (.string s2) := (by simpa using qw 2 s2 hx2); have hg := be_keep hb (al_mine w 0 false 0 0 0 0); have QW := Aside0.mk (show ∀ (j : Nat) (s : ByteArray), xs[j]? = some s → w'.cell? ⟨w.heap.size + 1, j, none⟩ = some (.string s) from fun j s hj => by simpa using qw j s hj); clear qw) | (go_at_call 31; refine (hc _).mono ?_; rintro e w2 ⟨rfl, hb2⟩; have z0 := be_cell hb2 q0; have z1 := be_cell hb2 q1; have z2 := be_cell hb2 q2; have hg2 := be_keep hb2 hg; obtain ⟨r0, r1, r2, r3, r4, r5, f0, f1, f2, f3, f4, f5⟩ := rc_all hg2) | (go_at_call 32; refine (hA _ (be_go hb2 (be_go hb (be_al _ (Below.refl _ _) (Nat.le_refl _)) (Nat.le_refl _)) (Nat.le_refl _))).mono ?_; rintro e w3 ⟨rfl, hb3⟩; have hg3 := be_keep hb3 hg2))
 all_goals obtain ⟨w5, e5, v2, v3, v0, v1, vg, vb, vs1, vs2, QV, vn1, vn2, vn3, vn4⟩ := mdf (A := A) (N := N) hb hb2 hb3 z0 z1 hg3 qs QW
 all_goals clear hb hb2 hb3 z0 z1 z2 hg hg2 hg3 q0 q1 q2 r0 r1 r2 r3 r4 r5 f0 f1 f2 f3 f4 f5 QW
 all_goals rw [e5]
 all_goals clear e5
 all_goals go_region_held3 (fun W => W.cell? ⟨w.heap.size + 1, 0, none⟩ = some (.string s0) ∧ W.cell? ⟨w.heap.size + 1, 1, none⟩ = some (.string s1) ∧ W.cell? ⟨w3.heap.size, 0, none⟩ = some (.int .u32 A) ∧ W.cell? ⟨w3.heap.size, 1, none⟩ = some (.int .i64 N)) (go_keep) (first | (go_at_call 31; refine (hc _).mono ?_; rintro e w4 ⟨rfl, hb4⟩; (first | (have ordA : True := trivial; have h54 : Below w5.heap.size w5 w4 := ((Below.refl _ _).drew).trans hb4) | (have ordB : True := trivial; have h54 : Below w5.heap.size w5 w4 := (((Below.refl _ _).drew).alloc (Nat.le_refl _) _).trans (hb4.mono (by simp)); have hgx0 := (hb4.block w5.heap.size (by simp)).trans (al_mine w5.drew 0 false 0 0 0 0); obtain ⟨x0, x1, x2, x3, x4, x5, fx0, fx1, fx2, fx3, fx4, fx5⟩ := rc_all hgx0)); have j0 := be_cell h54 v0; have j1 := be_cell h54 v1; have j2 := be_cell h54 v2; have j3 := be_cell h54 v3; have js := Nat.lt_of_lt_of_le vs1 h54.size; have jt := Nat.lt_of_lt_of_le vs2 h54.size; have jz := h54.size))
 ·have _t := ordA
  obtain ⟨w6, e6, HX, HG, QW, B6, gs, gw, bs⟩ := paf (m := m) (p := false) (A := A) (N := N) h54 vg vb QV js
  clear ordA
  clear h54 vg vb hb4 v0 v1 v2 v3 vs1 vs2 vn1 vn2 vn3 vn4 QV j0 j1 j2 j3 js jt jz
  rw [e6]
  clear e6
  generalize w4.heap.size = gx at *
  obtain ⟨r0, r1, r2, r3, r4, r5, f0, f1, f2, f3, f4, f5⟩ := rc_all HG
  go_wp2_with (go_at_call 33; refine (HL.out _ gx HX QW.out gw).mono ?_; rintro e w7 ⟨rfl, hx7, hb7⟩; have hg7 := (hb7.block w.heap.size (by omega)).trans HG; have B7 : Below w.heap.size w w7 := B6.trans (hb7.mono (by omega)); clear r0 r1 r2 r3 r4 r5 f0 f1 f2 f3 f4 f5; obtain ⟨r0, r1, r2, r3, r4, r5, f0, f1, f2, f3, f4, f5⟩ := rc_all hg7; obtain ⟨x0, x1, x2, x3, x4, x5, y0, y1, y2, y3, y4, y5⟩ := rc_all hx7)
  exact bodyPost_ret (results_ct rfl _ _ w.heap.size 26 _ (0, 0) _ rfl (set6 hg7) Tryz.underlying26 rfl rfl) rfl ⟨rfl, set6_below B7 (Nat.le_refl _)⟩
 ·have _t := ordB
  obtain ⟨w6, e6, HX, HG, QW, B6, gs, gw, bs⟩ := pbf (m := m) (p := false) (A := A) (N := N) hgx0 h54 vg vb QV vs1
  clear ordB hgx0 x0 x1 x2 x3 x4 x5 fx0 fx1 fx2 fx3 fx4 fx5
  clear h54 vg vb hb4 v0 v1 v2 v3 vs1 vs2 vn1 vn2 vn3 vn4 QV j0 j1 j2 j3 js jt jz
  rw [e6]
  clear e6
  generalize w5.heap.size = gx at *
  obtain ⟨r0, r1, r2, r3, r4, r5, f0, f1, f2, f3, f4, f5⟩ := rc_all HG
  go_wp2_with (go_at_call 33; refine (HL.out _ gx HX QW.out gw).mono ?_; rintro e w7 ⟨rfl, hx7, hb7⟩; have hg7 := (hb7.block w.heap.size (by omega)).trans HG; have B7 : Below w.heap.size w w7 := B6.trans (hb7.mono (by omega)); clear r0 r1 r2 r3 r4 r5 f0 f1 f2 f3 f4 f5; obtain ⟨r0, r1, r2, r3, r4, r5, f0, f1, f2, f3, f4, f5⟩ := rc_all hg7; obtain ⟨x0, x1, x2, x3, x4, x5, y0, y1, y2, y3, y4, y5⟩ := rc_all hx7)
  exact bodyPost_ret (results_ct rfl _ _ w.heap.size 26 _ (0, 0) _ rfl (set6 hg7) Tryz.underlying26 rfl rfl) rfl ⟨rfl, set6_below B7 (Nat.le_refl _)⟩
set_option maxRecDepth 20000 in
set_option maxHeartbeats 4000000 in
theorem parse_mn_true (a0 : ByteArray) (xs : List ByteArray) (w : World) (s0 s1 s2 : ByteArray) (m : Int) (hx0 : xs[0]? = some s0) (hx1 : xs[1]? = some s1) (hx2 : xs[2]? = some s2)
  (hS : ∀ W : World, Below w.heap.size w W → Calls Tryz.prog 30 #[.string a0, .string ⟨#[32]⟩] W fun e w' => e = .returned (.slice (some ⟨W.heap.size, 0, none⟩) xs.length xs.length) ∧ Words W w' xs) (hl : decide ((xs.length : Int) < 3) = false)
  (hn : plist_number.f s0 = some m) (hm : (m == 0) = false) (hs1 : (s1.toList == [112, 101, 114, 109, 105, 116]) = true)  (A N : Int)
  (hA : ∀ W : World, Below w.heap.size w W → Calls Tryz.prog 32 #[.string s2] W fun e w' => e = .returned (.tuple #[.agg #[.int .u32 A, .int .i64 N], .int .i64 0]) ∧ Below W.heap.size W w') (ge le : Int) (hx3 : ¬ (xs.length = 3)) (hL : ∀ (W : World) (gx : Nat), W.heap[gx]? = some (ruleCells m true A N 0 0) → (∀ (j : Nat) (s : ByteArray), xs[j]? = some s → W.cell? ⟨w.heap.size + 1, j, none⟩ = some (.string s)) → w.heap.size + 1 < gx →
   Calls Tryz.prog 33 #[.pointer (some ⟨gx, 0, none⟩), .slice (some ⟨w.heap.size + 1, 3, none⟩) (xs.length - 3) (xs.length - 3)] W fun e w' => LimPost gx m true A N ge le true W e w') (hM : ∀ W : World, Calls Tryz.prog 10 #[.agg #[.int .i64 m, .bool true, .int .u32 A, .int .i64 N, .int .i64 ge, .int .i64 le]] W fun e w' => e = .returned (.bool false) ∧ Below W.heap.size W w') :
  Calls Tryz.prog 8 #[.string a0] w fun e w' => e = .returned (.tuple #[.agg #[.int .i64 0, .bool false, .int .u32 0, .int .i64 0, .int .i64 0, .int .i64 0], .int .i64 1]) ∧ Below w.heap.size w w' := by
 have h0 : 0 < (xs.length : Int) := by simp at hl; omega
 have h1 : 1 < (xs.length : Int) := by simp at hl; omega
 have h2 : 0 < xs.length := by omega
 have h3 : 1 < xs.length := by omega
 have h4 : ¬ (xs.length : Int) < 3 := by simp at hl; omega
 have h5 : 2 < (xs.length : Int) := by simp at hl; omega
 have h6 : 2 < xs.length := by omega
 have hc := fun W => plist_number.calls s0 m W hn
 clear hn
 have h3z : (3 : Int) ≤ (xs.length : Int) := by simp at hl; omega
 have HL := Aside0.mk hL
 clear hL
 go_enter Tryz.func8, Tryz.ntmps8
 go_wp2_with (first | (go_at_call 30; refine (hS _ (be_al _ (Below.refl _ _) (Nat.le_refl _))).mono ?_; rintro e w' ⟨rfl, hb, qs, qw⟩; replace qs : w.heap.size + 1 < w'.heap.size := (by simpa using qs); have q0 : w'.cell? ⟨w.heap.size + 1, 0, none⟩ = some (.string s0) := (by simpa using qw 0 s0 hx0); have q1 : w'.cell? ⟨w.heap.size + 1, 1, none⟩ = some (.string s1) := (by simpa using qw 1 s1 hx1); have q2 : w'.cell? ⟨w.heap.size + 1, 2, none⟩ = some (.string s2) := (by simpa using qw 2 s2 hx2); have hg := be_keep hb (al_mine w 0 false 0 0 0 0); have QW := Aside0.mk (show ∀ (j : Nat) (s : ByteArray), xs[j]? = some s → w'.cell? ⟨w.heap.size + 1, j, none⟩ = some (.string s) from fun j s hj => by simpa using qw j s hj); clear qw) | (go_at_call 31; refine (hc _).mono ?_; rintro e w2 ⟨rfl, hb2⟩; have z0 := be_cell hb2 q0; have z1 := be_cell hb2 q1; have z2 := be_cell hb2 q2; have hg2 := be_keep hb2 hg; obtain ⟨r0, r1, r2, r3, r4, r5, f0, f1, f2, f3, f4, f5⟩ := rc_all hg2) | (go_at_call 32; refine (hA _ (be_go hb2 (be_go hb (be_al _ (Below.refl _ _) (Nat.le_refl _)) (Nat.le_refl _)) (Nat.le_refl _))).mono ?_; rintro e w3 ⟨rfl, hb3⟩; have hg3 := be_keep hb3 hg2))
 all_goals obtain ⟨w5, e5, v2, v3, v0, v1, vg, vb, vs1, vs2, QV, vn1, vn2, vn3, vn4⟩ := mdf (A := A) (N := N) hb hb2 hb3 z0 z1 hg3 qs QW
 all_goals clear hb hb2 hb3 z0 z1 z2 hg hg2 hg3 q0 q1 q2 r0 r1 r2 r3 r4 r5 f0 f1 f2 f3 f4 f5 QW
 all_goals rw [e5]
 all_goals clear e5
 all_goals go_region_held3 (fun W => W.cell? ⟨w.heap.size + 1, 0, none⟩ = some (.string s0) ∧ W.cell? ⟨w.heap.size + 1, 1, none⟩ = some (.string s1) ∧ W.cell? ⟨w3.heap.size, 0, none⟩ = some (.int .u32 A) ∧ W.cell? ⟨w3.heap.size, 1, none⟩ = some (.int .i64 N)) (go_keep) (first | (go_at_call 31; refine (hc _).mono ?_; rintro e w4 ⟨rfl, hb4⟩; (first | (have ordA : True := trivial; have h54 : Below w5.heap.size w5 w4 := ((Below.refl _ _).drew).trans hb4) | (have ordB : True := trivial; have h54 : Below w5.heap.size w5 w4 := (((Below.refl _ _).drew).alloc (Nat.le_refl _) _).trans (hb4.mono (by simp)); have hgx0 := (hb4.block w5.heap.size (by simp)).trans (al_mine w5.drew 0 false 0 0 0 0); obtain ⟨x0, x1, x2, x3, x4, x5, fx0, fx1, fx2, fx3, fx4, fx5⟩ := rc_all hgx0)); have j0 := be_cell h54 v0; have j1 := be_cell h54 v1; have j2 := be_cell h54 v2; have j3 := be_cell h54 v3; have js := Nat.lt_of_lt_of_le vs1 h54.size; have jt := Nat.lt_of_lt_of_le vs2 h54.size; have jz := h54.size))
 ·have _t := ordA
  obtain ⟨w6, e6, HX, HG, QW, B6, gs, gw, bs⟩ := paf (m := m) (p := true) (A := A) (N := N) h54 vg vb QV js
  clear ordA
  clear h54 vg vb hb4 v0 v1 v2 v3 vs1 vs2 vn1 vn2 vn3 vn4 QV j0 j1 j2 j3 js jt jz
  rw [e6]
  clear e6
  generalize w4.heap.size = gx at *
  obtain ⟨r0, r1, r2, r3, r4, r5, f0, f1, f2, f3, f4, f5⟩ := rc_all HG
  go_wp2_with (first | (go_at_call 33; refine (HL.out _ gx HX QW.out gw).mono ?_; rintro e w7 ⟨rfl, hx7, hb7⟩; have hg7 := (hb7.block w.heap.size (by omega)).trans HG; have B7 : Below w.heap.size w w7 := B6.trans (hb7.mono (by omega)); clear r0 r1 r2 r3 r4 r5 f0 f1 f2 f3 f4 f5; obtain ⟨r0, r1, r2, r3, r4, r5, f0, f1, f2, f3, f4, f5⟩ := rc_all hg7; obtain ⟨x0, x1, x2, x3, x4, x5, y0, y1, y2, y3, y4, y5⟩ := rc_all hx7) | (go_at_call 10; refine (hM _).mono ?_; rintro e w8 ⟨rfl, hb8⟩; have hg8 := be_keep hb8 hg7; have hx8 := be_keep hb8 hx7; have B8 : Below w.heap.size w w8 := be_go hb8 B7 (Nat.le_refl _); clear r0 r1 r2 r3 r4 r5 f0 f1 f2 f3 f4 f5 x0 x1 x2 x3 x4 x5 y0 y1 y2 y3 y4 y5; obtain ⟨r0, r1, r2, r3, r4, r5, f0, f1, f2, f3, f4, f5⟩ := rc_all hg8; obtain ⟨x0, x1, x2, x3, x4, x5, y0, y1, y2, y3, y4, y5⟩ := rc_all hx8))
  exact bodyPost_ret (results_ct rfl _ _ w.heap.size 26 _ (0, 0) _ rfl (set6 hg8) Tryz.underlying26 rfl rfl) rfl ⟨rfl, set6_below B8 (Nat.le_refl _)⟩
 ·have _t := ordB
  obtain ⟨w6, e6, HX, HG, QW, B6, gs, gw, bs⟩ := pbf (m := m) (p := true) (A := A) (N := N) hgx0 h54 vg vb QV vs1
  clear ordB hgx0 x0 x1 x2 x3 x4 x5 fx0 fx1 fx2 fx3 fx4 fx5
  clear h54 vg vb hb4 v0 v1 v2 v3 vs1 vs2 vn1 vn2 vn3 vn4 QV j0 j1 j2 j3 js jt jz
  rw [e6]
  clear e6
  generalize w5.heap.size = gx at *
  obtain ⟨r0, r1, r2, r3, r4, r5, f0, f1, f2, f3, f4, f5⟩ := rc_all HG
  go_wp2_with (first | (go_at_call 33; refine (HL.out _ gx HX QW.out gw).mono ?_; rintro e w7 ⟨rfl, hx7, hb7⟩; have hg7 := (hb7.block w.heap.size (by omega)).trans HG; have B7 : Below w.heap.size w w7 := B6.trans (hb7.mono (by omega)); clear r0 r1 r2 r3 r4 r5 f0 f1 f2 f3 f4 f5; obtain ⟨r0, r1, r2, r3, r4, r5, f0, f1, f2, f3, f4, f5⟩ := rc_all hg7; obtain ⟨x0, x1, x2, x3, x4, x5, y0, y1, y2, y3, y4, y5⟩ := rc_all hx7) | (go_at_call 10; refine (hM _).mono ?_; rintro e w8 ⟨rfl, hb8⟩; have hg8 := be_keep hb8 hg7; have hx8 := be_keep hb8 hx7; have B8 : Below w.heap.size w w8 := be_go hb8 B7 (Nat.le_refl _); clear r0 r1 r2 r3 r4 r5 f0 f1 f2 f3 f4 f5 x0 x1 x2 x3 x4 x5 y0 y1 y2 y3 y4 y5; obtain ⟨r0, r1, r2, r3, r4, r5, f0, f1, f2, f3, f4, f5⟩ := rc_all hg8; obtain ⟨x0, x1, x2, x3, x4, x5, y0, y1, y2, y3, y4, y5⟩ := rc_all hx8))
  exact bodyPost_ret (results_ct rfl _ _ w.heap.size 26 _ (0, 0) _ rfl (set6 hg8) Tryz.underlying26 rfl rfl) rfl ⟨rfl, set6_below B8 (Nat.le_refl _)⟩
set_option maxRecDepth 20000 in
set_option maxHeartbeats 4000000 in
theorem parse_mn_false (a0 : ByteArray) (xs : List ByteArray) (w : World) (s0 s1 s2 : ByteArray) (m : Int) (hx0 : xs[0]? = some s0) (hx1 : xs[1]? = some s1) (hx2 : xs[2]? = some s2)
  (hS : ∀ W : World, Below w.heap.size w W → Calls Tryz.prog 30 #[.string a0, .string ⟨#[32]⟩] W fun e w' => e = .returned (.slice (some ⟨W.heap.size, 0, none⟩) xs.length xs.length) ∧ Words W w' xs) (hl : decide ((xs.length : Int) < 3) = false)
  (hn : plist_number.f s0 = some m) (hm : (m == 0) = false) (hs1 : (s1.toList == [112, 101, 114, 109, 105, 116]) = false) (hs3 : (s1.toList == [100, 101, 110, 121]) = true) (A N : Int)
  (hA : ∀ W : World, Below w.heap.size w W → Calls Tryz.prog 32 #[.string s2] W fun e w' => e = .returned (.tuple #[.agg #[.int .u32 A, .int .i64 N], .int .i64 0]) ∧ Below W.heap.size W w') (ge le : Int) (hx3 : ¬ (xs.length = 3)) (hL : ∀ (W : World) (gx : Nat), W.heap[gx]? = some (ruleCells m false A N 0 0) → (∀ (j : Nat) (s : ByteArray), xs[j]? = some s → W.cell? ⟨w.heap.size + 1, j, none⟩ = some (.string s)) → w.heap.size + 1 < gx →
   Calls Tryz.prog 33 #[.pointer (some ⟨gx, 0, none⟩), .slice (some ⟨w.heap.size + 1, 3, none⟩) (xs.length - 3) (xs.length - 3)] W fun e w' => LimPost gx m false A N ge le true W e w') (hM : ∀ W : World, Calls Tryz.prog 10 #[.agg #[.int .i64 m, .bool false, .int .u32 A, .int .i64 N, .int .i64 ge, .int .i64 le]] W fun e w' => e = .returned (.bool false) ∧ Below W.heap.size W w') :
  Calls Tryz.prog 8 #[.string a0] w fun e w' => e = .returned (.tuple #[.agg #[.int .i64 0, .bool false, .int .u32 0, .int .i64 0, .int .i64 0, .int .i64 0], .int .i64 1]) ∧ Below w.heap.size w w' := by
 have h0 : 0 < (xs.length : Int) := by simp at hl; omega
 have h1 : 1 < (xs.length : Int) := by simp at hl; omega
 have h2 : 0 < xs.length := by omega
 have h3 : 1 < xs.length := by omega
 have h4 : ¬ (xs.length : Int) < 3 := by simp at hl; omega
 have h5 : 2 < (xs.length : Int) := by simp at hl; omega
 have h6 : 2 < xs.length := by omega
 have hc := fun W => plist_number.calls s0 m W hn
 clear hn
 have h3z : (3 : Int) ≤ (xs.length : Int) := by simp at hl; omega
 have HL := Aside0.mk hL
 clear hL
 go_enter Tryz.func8, Tryz.ntmps8
 go_wp2_with (first | (go_at_call 30; refine (hS _ (be_al _ (Below.refl _ _) (Nat.le_refl _))).mono ?_; rintro e w' ⟨rfl, hb, qs, qw⟩; replace qs : w.heap.size + 1 < w'.heap.size := (by simpa using qs); have q0 : w'.cell? ⟨w.heap.size + 1, 0, none⟩ = some (.string s0) := (by simpa using qw 0 s0 hx0); have q1 : w'.cell? ⟨w.heap.size + 1, 1, none⟩ = some (.string s1) := (by simpa using qw 1 s1 hx1); have q2 : w'.cell? ⟨w.heap.size + 1, 2, none⟩ = some (.string s2) := (by simpa using qw 2 s2 hx2); have hg := be_keep hb (al_mine w 0 false 0 0 0 0); have QW := Aside0.mk (show ∀ (j : Nat) (s : ByteArray), xs[j]? = some s → w'.cell? ⟨w.heap.size + 1, j, none⟩ = some (.string s) from fun j s hj => by simpa using qw j s hj); clear qw) | (go_at_call 31; refine (hc _).mono ?_; rintro e w2 ⟨rfl, hb2⟩; have z0 := be_cell hb2 q0; have z1 := be_cell hb2 q1; have z2 := be_cell hb2 q2; have hg2 := be_keep hb2 hg; obtain ⟨r0, r1, r2, r3, r4, r5, f0, f1, f2, f3, f4, f5⟩ := rc_all hg2) | (go_at_call 32; refine (hA _ (be_go hb2 (be_go hb (be_al _ (Below.refl _ _) (Nat.le_refl _)) (Nat.le_refl _)) (Nat.le_refl _))).mono ?_; rintro e w3 ⟨rfl, hb3⟩; have hg3 := be_keep hb3 hg2))
 all_goals obtain ⟨w5, e5, v2, v3, v0, v1, vg, vb, vs1, vs2, QV, vn1, vn2, vn3, vn4⟩ := mdf (A := A) (N := N) hb hb2 hb3 z0 z1 hg3 qs QW
 all_goals clear hb hb2 hb3 z0 z1 z2 hg hg2 hg3 q0 q1 q2 r0 r1 r2 r3 r4 r5 f0 f1 f2 f3 f4 f5 QW
 all_goals rw [e5]
 all_goals clear e5
 all_goals go_region_held3 (fun W => W.cell? ⟨w.heap.size + 1, 0, none⟩ = some (.string s0) ∧ W.cell? ⟨w.heap.size + 1, 1, none⟩ = some (.string s1) ∧ W.cell? ⟨w3.heap.size, 0, none⟩ = some (.int .u32 A) ∧ W.cell? ⟨w3.heap.size, 1, none⟩ = some (.int .i64 N)) (go_keep) (first | (go_at_call 31; refine (hc _).mono ?_; rintro e w4 ⟨rfl, hb4⟩; (first | (have ordA : True := trivial; have h54 : Below w5.heap.size w5 w4 := ((Below.refl _ _).drew).trans hb4) | (have ordB : True := trivial; have h54 : Below w5.heap.size w5 w4 := (((Below.refl _ _).drew).alloc (Nat.le_refl _) _).trans (hb4.mono (by simp)); have hgx0 := (hb4.block w5.heap.size (by simp)).trans (al_mine w5.drew 0 false 0 0 0 0); obtain ⟨x0, x1, x2, x3, x4, x5, fx0, fx1, fx2, fx3, fx4, fx5⟩ := rc_all hgx0)); have j0 := be_cell h54 v0; have j1 := be_cell h54 v1; have j2 := be_cell h54 v2; have j3 := be_cell h54 v3; have js := Nat.lt_of_lt_of_le vs1 h54.size; have jt := Nat.lt_of_lt_of_le vs2 h54.size; have jz := h54.size))
 ·have _t := ordA
  obtain ⟨w6, e6, HX, HG, QW, B6, gs, gw, bs⟩ := paf (m := m) (p := false) (A := A) (N := N) h54 vg vb QV js
  clear ordA
  clear h54 vg vb hb4 v0 v1 v2 v3 vs1 vs2 vn1 vn2 vn3 vn4 QV j0 j1 j2 j3 js jt jz
  rw [e6]
  clear e6
  generalize w4.heap.size = gx at *
  obtain ⟨r0, r1, r2, r3, r4, r5, f0, f1, f2, f3, f4, f5⟩ := rc_all HG
  go_wp2_with (first | (go_at_call 33; refine (HL.out _ gx HX QW.out gw).mono ?_; rintro e w7 ⟨rfl, hx7, hb7⟩; have hg7 := (hb7.block w.heap.size (by omega)).trans HG; have B7 : Below w.heap.size w w7 := B6.trans (hb7.mono (by omega)); clear r0 r1 r2 r3 r4 r5 f0 f1 f2 f3 f4 f5; obtain ⟨r0, r1, r2, r3, r4, r5, f0, f1, f2, f3, f4, f5⟩ := rc_all hg7; obtain ⟨x0, x1, x2, x3, x4, x5, y0, y1, y2, y3, y4, y5⟩ := rc_all hx7) | (go_at_call 10; refine (hM _).mono ?_; rintro e w8 ⟨rfl, hb8⟩; have hg8 := be_keep hb8 hg7; have hx8 := be_keep hb8 hx7; have B8 : Below w.heap.size w w8 := be_go hb8 B7 (Nat.le_refl _); clear r0 r1 r2 r3 r4 r5 f0 f1 f2 f3 f4 f5 x0 x1 x2 x3 x4 x5 y0 y1 y2 y3 y4 y5; obtain ⟨r0, r1, r2, r3, r4, r5, f0, f1, f2, f3, f4, f5⟩ := rc_all hg8; obtain ⟨x0, x1, x2, x3, x4, x5, y0, y1, y2, y3, y4, y5⟩ := rc_all hx8))
  exact bodyPost_ret (results_ct rfl _ _ w.heap.size 26 _ (0, 0) _ rfl (set6 hg8) Tryz.underlying26 rfl rfl) rfl ⟨rfl, set6_below B8 (Nat.le_refl _)⟩
 ·have _t := ordB
  obtain ⟨w6, e6, HX, HG, QW, B6, gs, gw, bs⟩ := pbf (m := m) (p := false) (A := A) (N := N) hgx0 h54 vg vb QV vs1
  clear ordB hgx0 x0 x1 x2 x3 x4 x5 fx0 fx1 fx2 fx3 fx4 fx5
  clear h54 vg vb hb4 v0 v1 v2 v3 vs1 vs2 vn1 vn2 vn3 vn4 QV j0 j1 j2 j3 js jt jz
  rw [e6]
  clear e6
  generalize w5.heap.size = gx at *
  obtain ⟨r0, r1, r2, r3, r4, r5, f0, f1, f2, f3, f4, f5⟩ := rc_all HG
  go_wp2_with (first | (go_at_call 33; refine (HL.out _ gx HX QW.out gw).mono ?_; rintro e w7 ⟨rfl, hx7, hb7⟩; have hg7 := (hb7.block w.heap.size (by omega)).trans HG; have B7 : Below w.heap.size w w7 := B6.trans (hb7.mono (by omega)); clear r0 r1 r2 r3 r4 r5 f0 f1 f2 f3 f4 f5; obtain ⟨r0, r1, r2, r3, r4, r5, f0, f1, f2, f3, f4, f5⟩ := rc_all hg7; obtain ⟨x0, x1, x2, x3, x4, x5, y0, y1, y2, y3, y4, y5⟩ := rc_all hx7) | (go_at_call 10; refine (hM _).mono ?_; rintro e w8 ⟨rfl, hb8⟩; have hg8 := be_keep hb8 hg7; have hx8 := be_keep hb8 hx7; have B8 : Below w.heap.size w w8 := be_go hb8 B7 (Nat.le_refl _); clear r0 r1 r2 r3 r4 r5 f0 f1 f2 f3 f4 f5 x0 x1 x2 x3 x4 x5 y0 y1 y2 y3 y4 y5; obtain ⟨r0, r1, r2, r3, r4, r5, f0, f1, f2, f3, f4, f5⟩ := rc_all hg8; obtain ⟨x0, x1, x2, x3, x4, x5, y0, y1, y2, y3, y4, y5⟩ := rc_all hx8))
  exact bodyPost_ret (results_ct rfl _ _ w.heap.size 26 _ (0, 0) _ rfl (set6 hg8) Tryz.underlying26 rfl rfl) rfl ⟨rfl, set6_below B8 (Nat.le_refl _)⟩
set_option maxRecDepth 20000 in
set_option maxHeartbeats 4000000 in
theorem parse_on_true (a0 : ByteArray) (xs : List ByteArray) (w : World) (s0 s1 s2 : ByteArray) (m : Int) (hx0 : xs[0]? = some s0) (hx1 : xs[1]? = some s1) (hx2 : xs[2]? = some s2)
  (hS : ∀ W : World, Below w.heap.size w W → Calls Tryz.prog 30 #[.string a0, .string ⟨#[32]⟩] W fun e w' => e = .returned (.slice (some ⟨W.heap.size, 0, none⟩) xs.length xs.length) ∧ Words W w' xs) (hl : decide ((xs.length : Int) < 3) = false)
  (hn : plist_number.f s0 = some m) (hm : (m == 0) = false) (hs1 : (s1.toList == [112, 101, 114, 109, 105, 116]) = true)  (A N : Int)
  (hA : ∀ W : World, Below w.heap.size w W → Calls Tryz.prog 32 #[.string s2] W fun e w' => e = .returned (.tuple #[.agg #[.int .u32 A, .int .i64 N], .int .i64 0]) ∧ Below W.heap.size W w') (ge le : Int) (hx3 : ¬ (xs.length = 3)) (hL : ∀ (W : World) (gx : Nat), W.heap[gx]? = some (ruleCells m true A N 0 0) → (∀ (j : Nat) (s : ByteArray), xs[j]? = some s → W.cell? ⟨w.heap.size + 1, j, none⟩ = some (.string s)) → w.heap.size + 1 < gx →
   Calls Tryz.prog 33 #[.pointer (some ⟨gx, 0, none⟩), .slice (some ⟨w.heap.size + 1, 3, none⟩) (xs.length - 3) (xs.length - 3)] W fun e w' => LimPost gx m true A N ge le true W e w') (hM : ∀ W : World, Calls Tryz.prog 10 #[.agg #[.int .i64 m, .bool true, .int .u32 A, .int .i64 N, .int .i64 ge, .int .i64 le]] W fun e w' => e = .returned (.bool true) ∧ Below W.heap.size W w') :
  Calls Tryz.prog 8 #[.string a0] w fun e w' => e = .returned (.tuple #[.agg #[.int .i64 m, .bool true, .int .u32 A, .int .i64 N, .int .i64 ge, .int .i64 le], .int .i64 0]) ∧ Below w.heap.size w w' := by
 have h0 : 0 < (xs.length : Int) := by simp at hl; omega
 have h1 : 1 < (xs.length : Int) := by simp at hl; omega
 have h2 : 0 < xs.length := by omega
 have h3 : 1 < xs.length := by omega
 have h4 : ¬ (xs.length : Int) < 3 := by simp at hl; omega
 have h5 : 2 < (xs.length : Int) := by simp at hl; omega
 have h6 : 2 < xs.length := by omega
 have hc := fun W => plist_number.calls s0 m W hn
 clear hn
 have h3z : (3 : Int) ≤ (xs.length : Int) := by simp at hl; omega
 have HL := Aside0.mk hL
 clear hL
 go_enter Tryz.func8, Tryz.ntmps8
 go_wp2_with (first | (go_at_call 30; refine (hS _ (be_al _ (Below.refl _ _) (Nat.le_refl _))).mono ?_; rintro e w' ⟨rfl, hb, qs, qw⟩; replace qs : w.heap.size + 1 < w'.heap.size := (by simpa using qs); have q0 : w'.cell? ⟨w.heap.size + 1, 0, none⟩ = some (.string s0) := (by simpa using qw 0 s0 hx0); have q1 : w'.cell? ⟨w.heap.size + 1, 1, none⟩ = some (.string s1) := (by simpa using qw 1 s1 hx1); have q2 : w'.cell? ⟨w.heap.size + 1, 2, none⟩ = some (.string s2) := (by simpa using qw 2 s2 hx2); have hg := be_keep hb (al_mine w 0 false 0 0 0 0); have QW := Aside0.mk (show ∀ (j : Nat) (s : ByteArray), xs[j]? = some s → w'.cell? ⟨w.heap.size + 1, j, none⟩ = some (.string s) from fun j s hj => by simpa using qw j s hj); clear qw) | (go_at_call 31; refine (hc _).mono ?_; rintro e w2 ⟨rfl, hb2⟩; have z0 := be_cell hb2 q0; have z1 := be_cell hb2 q1; have z2 := be_cell hb2 q2; have hg2 := be_keep hb2 hg; obtain ⟨r0, r1, r2, r3, r4, r5, f0, f1, f2, f3, f4, f5⟩ := rc_all hg2) | (go_at_call 32; refine (hA _ (be_go hb2 (be_go hb (be_al _ (Below.refl _ _) (Nat.le_refl _)) (Nat.le_refl _)) (Nat.le_refl _))).mono ?_; rintro e w3 ⟨rfl, hb3⟩; have hg3 := be_keep hb3 hg2))
 all_goals obtain ⟨w5, e5, v2, v3, v0, v1, vg, vb, vs1, vs2, QV, vn1, vn2, vn3, vn4⟩ := mdf (A := A) (N := N) hb hb2 hb3 z0 z1 hg3 qs QW
 all_goals clear hb hb2 hb3 z0 z1 z2 hg hg2 hg3 q0 q1 q2 r0 r1 r2 r3 r4 r5 f0 f1 f2 f3 f4 f5 QW
 all_goals rw [e5]
 all_goals clear e5
 all_goals go_region_held3 (fun W => W.cell? ⟨w.heap.size + 1, 0, none⟩ = some (.string s0) ∧ W.cell? ⟨w.heap.size + 1, 1, none⟩ = some (.string s1) ∧ W.cell? ⟨w3.heap.size, 0, none⟩ = some (.int .u32 A) ∧ W.cell? ⟨w3.heap.size, 1, none⟩ = some (.int .i64 N)) (go_keep) (first | (go_at_call 31; refine (hc _).mono ?_; rintro e w4 ⟨rfl, hb4⟩; (first | (have ordA : True := trivial; have h54 : Below w5.heap.size w5 w4 := ((Below.refl _ _).drew).trans hb4) | (have ordB : True := trivial; have h54 : Below w5.heap.size w5 w4 := (((Below.refl _ _).drew).alloc (Nat.le_refl _) _).trans (hb4.mono (by simp)); have hgx0 := (hb4.block w5.heap.size (by simp)).trans (al_mine w5.drew 0 false 0 0 0 0); obtain ⟨x0, x1, x2, x3, x4, x5, fx0, fx1, fx2, fx3, fx4, fx5⟩ := rc_all hgx0)); have j0 := be_cell h54 v0; have j1 := be_cell h54 v1; have j2 := be_cell h54 v2; have j3 := be_cell h54 v3; have js := Nat.lt_of_lt_of_le vs1 h54.size; have jt := Nat.lt_of_lt_of_le vs2 h54.size; have jz := h54.size))
 ·have _t := ordA
  obtain ⟨w6, e6, HX, HG, QW, B6, gs, gw, bs⟩ := paf (m := m) (p := true) (A := A) (N := N) h54 vg vb QV js
  clear ordA
  clear h54 vg vb hb4 v0 v1 v2 v3 vs1 vs2 vn1 vn2 vn3 vn4 QV j0 j1 j2 j3 js jt jz
  rw [e6]
  clear e6
  generalize w4.heap.size = gx at *
  obtain ⟨r0, r1, r2, r3, r4, r5, f0, f1, f2, f3, f4, f5⟩ := rc_all HG
  go_wp2_with (first | (go_at_call 33; refine (HL.out _ gx HX QW.out gw).mono ?_; rintro e w7 ⟨rfl, hx7, hb7⟩; have hg7 := (hb7.block w.heap.size (by omega)).trans HG; have B7 : Below w.heap.size w w7 := B6.trans (hb7.mono (by omega)); clear r0 r1 r2 r3 r4 r5 f0 f1 f2 f3 f4 f5; obtain ⟨r0, r1, r2, r3, r4, r5, f0, f1, f2, f3, f4, f5⟩ := rc_all hg7; obtain ⟨x0, x1, x2, x3, x4, x5, y0, y1, y2, y3, y4, y5⟩ := rc_all hx7) | (go_at_call 10; refine (hM _).mono ?_; rintro e w8 ⟨rfl, hb8⟩; have hg8 := be_keep hb8 hg7; have hx8 := be_keep hb8 hx7; have B8 : Below w.heap.size w w8 := be_go hb8 B7 (Nat.le_refl _); clear r0 r1 r2 r3 r4 r5 f0 f1 f2 f3 f4 f5 x0 x1 x2 x3 x4 x5 y0 y1 y2 y3 y4 y5; obtain ⟨r0, r1, r2, r3, r4, r5, f0, f1, f2, f3, f4, f5⟩ := rc_all hg8; obtain ⟨x0, x1, x2, x3, x4, x5, y0, y1, y2, y3, y4, y5⟩ := rc_all hx8))
  exact bodyPost_ret (results_ct rfl _ _ w.heap.size 26 _ (0, 0) _ rfl (set6 hg8) Tryz.underlying26 rfl rfl) rfl ⟨rfl, set6_below B8 (Nat.le_refl _)⟩
 ·have _t := ordB
  obtain ⟨w6, e6, HX, HG, QW, B6, gs, gw, bs⟩ := pbf (m := m) (p := true) (A := A) (N := N) hgx0 h54 vg vb QV vs1
  clear ordB hgx0 x0 x1 x2 x3 x4 x5 fx0 fx1 fx2 fx3 fx4 fx5
  clear h54 vg vb hb4 v0 v1 v2 v3 vs1 vs2 vn1 vn2 vn3 vn4 QV j0 j1 j2 j3 js jt jz
  rw [e6]
  clear e6
  generalize w5.heap.size = gx at *
  obtain ⟨r0, r1, r2, r3, r4, r5, f0, f1, f2, f3, f4, f5⟩ := rc_all HG
  go_wp2_with (first | (go_at_call 33; refine (HL.out _ gx HX QW.out gw).mono ?_; rintro e w7 ⟨rfl, hx7, hb7⟩; have hg7 := (hb7.block w.heap.size (by omega)).trans HG; have B7 : Below w.heap.size w w7 := B6.trans (hb7.mono (by omega)); clear r0 r1 r2 r3 r4 r5 f0 f1 f2 f3 f4 f5; obtain ⟨r0, r1, r2, r3, r4, r5, f0, f1, f2, f3, f4, f5⟩ := rc_all hg7; obtain ⟨x0, x1, x2, x3, x4, x5, y0, y1, y2, y3, y4, y5⟩ := rc_all hx7) | (go_at_call 10; refine (hM _).mono ?_; rintro e w8 ⟨rfl, hb8⟩; have hg8 := be_keep hb8 hg7; have hx8 := be_keep hb8 hx7; have B8 : Below w.heap.size w w8 := be_go hb8 B7 (Nat.le_refl _); clear r0 r1 r2 r3 r4 r5 f0 f1 f2 f3 f4 f5 x0 x1 x2 x3 x4 x5 y0 y1 y2 y3 y4 y5; obtain ⟨r0, r1, r2, r3, r4, r5, f0, f1, f2, f3, f4, f5⟩ := rc_all hg8; obtain ⟨x0, x1, x2, x3, x4, x5, y0, y1, y2, y3, y4, y5⟩ := rc_all hx8))
  exact bodyPost_ret (results_ct rfl _ _ w.heap.size 26 _ (0, 0) _ rfl (set6 hg8) Tryz.underlying26 rfl rfl) rfl ⟨rfl, set6_below B8 (Nat.le_refl _)⟩
set_option maxRecDepth 20000 in
set_option maxHeartbeats 4000000 in
theorem parse_on_false (a0 : ByteArray) (xs : List ByteArray) (w : World) (s0 s1 s2 : ByteArray) (m : Int) (hx0 : xs[0]? = some s0) (hx1 : xs[1]? = some s1) (hx2 : xs[2]? = some s2)
  (hS : ∀ W : World, Below w.heap.size w W → Calls Tryz.prog 30 #[.string a0, .string ⟨#[32]⟩] W fun e w' => e = .returned (.slice (some ⟨W.heap.size, 0, none⟩) xs.length xs.length) ∧ Words W w' xs) (hl : decide ((xs.length : Int) < 3) = false)
  (hn : plist_number.f s0 = some m) (hm : (m == 0) = false) (hs1 : (s1.toList == [112, 101, 114, 109, 105, 116]) = false) (hs3 : (s1.toList == [100, 101, 110, 121]) = true) (A N : Int)
  (hA : ∀ W : World, Below w.heap.size w W → Calls Tryz.prog 32 #[.string s2] W fun e w' => e = .returned (.tuple #[.agg #[.int .u32 A, .int .i64 N], .int .i64 0]) ∧ Below W.heap.size W w') (ge le : Int) (hx3 : ¬ (xs.length = 3)) (hL : ∀ (W : World) (gx : Nat), W.heap[gx]? = some (ruleCells m false A N 0 0) → (∀ (j : Nat) (s : ByteArray), xs[j]? = some s → W.cell? ⟨w.heap.size + 1, j, none⟩ = some (.string s)) → w.heap.size + 1 < gx →
   Calls Tryz.prog 33 #[.pointer (some ⟨gx, 0, none⟩), .slice (some ⟨w.heap.size + 1, 3, none⟩) (xs.length - 3) (xs.length - 3)] W fun e w' => LimPost gx m false A N ge le true W e w') (hM : ∀ W : World, Calls Tryz.prog 10 #[.agg #[.int .i64 m, .bool false, .int .u32 A, .int .i64 N, .int .i64 ge, .int .i64 le]] W fun e w' => e = .returned (.bool true) ∧ Below W.heap.size W w') :
  Calls Tryz.prog 8 #[.string a0] w fun e w' => e = .returned (.tuple #[.agg #[.int .i64 m, .bool false, .int .u32 A, .int .i64 N, .int .i64 ge, .int .i64 le], .int .i64 0]) ∧ Below w.heap.size w w' := by
 have h0 : 0 < (xs.length : Int) := by simp at hl; omega
 have h1 : 1 < (xs.length : Int) := by simp at hl; omega
 have h2 : 0 < xs.length := by omega
 have h3 : 1 < xs.length := by omega
 have h4 : ¬ (xs.length : Int) < 3 := by simp at hl; omega
 have h5 : 2 < (xs.length : Int) := by simp at hl; omega
 have h6 : 2 < xs.length := by omega
 have hc := fun W => plist_number.calls s0 m W hn
 clear hn
 have h3z : (3 : Int) ≤ (xs.length : Int) := by simp at hl; omega
 have HL := Aside0.mk hL
 clear hL
 go_enter Tryz.func8, Tryz.ntmps8
 go_wp2_with (first | (go_at_call 30; refine (hS _ (be_al _ (Below.refl _ _) (Nat.le_refl _))).mono ?_; rintro e w' ⟨rfl, hb, qs, qw⟩; replace qs : w.heap.size + 1 < w'.heap.size := (by simpa using qs); have q0 : w'.cell? ⟨w.heap.size + 1, 0, none⟩ = some (.string s0) := (by simpa using qw 0 s0 hx0); have q1 : w'.cell? ⟨w.heap.size + 1, 1, none⟩ = some (.string s1) := (by simpa using qw 1 s1 hx1); have q2 : w'.cell? ⟨w.heap.size + 1, 2, none⟩ = some (.string s2) := (by simpa using qw 2 s2 hx2); have hg := be_keep hb (al_mine w 0 false 0 0 0 0); have QW := Aside0.mk (show ∀ (j : Nat) (s : ByteArray), xs[j]? = some s → w'.cell? ⟨w.heap.size + 1, j, none⟩ = some (.string s) from fun j s hj => by simpa using qw j s hj); clear qw) | (go_at_call 31; refine (hc _).mono ?_; rintro e w2 ⟨rfl, hb2⟩; have z0 := be_cell hb2 q0; have z1 := be_cell hb2 q1; have z2 := be_cell hb2 q2; have hg2 := be_keep hb2 hg; obtain ⟨r0, r1, r2, r3, r4, r5, f0, f1, f2, f3, f4, f5⟩ := rc_all hg2) | (go_at_call 32; refine (hA _ (be_go hb2 (be_go hb (be_al _ (Below.refl _ _) (Nat.le_refl _)) (Nat.le_refl _)) (Nat.le_refl _))).mono ?_; rintro e w3 ⟨rfl, hb3⟩; have hg3 := be_keep hb3 hg2))
 all_goals obtain ⟨w5, e5, v2, v3, v0, v1, vg, vb, vs1, vs2, QV, vn1, vn2, vn3, vn4⟩ := mdf (A := A) (N := N) hb hb2 hb3 z0 z1 hg3 qs QW
 all_goals clear hb hb2 hb3 z0 z1 z2 hg hg2 hg3 q0 q1 q2 r0 r1 r2 r3 r4 r5 f0 f1 f2 f3 f4 f5 QW
 all_goals rw [e5]
 all_goals clear e5
 all_goals go_region_held3 (fun W => W.cell? ⟨w.heap.size + 1, 0, none⟩ = some (.string s0) ∧ W.cell? ⟨w.heap.size + 1, 1, none⟩ = some (.string s1) ∧ W.cell? ⟨w3.heap.size, 0, none⟩ = some (.int .u32 A) ∧ W.cell? ⟨w3.heap.size, 1, none⟩ = some (.int .i64 N)) (go_keep) (first | (go_at_call 31; refine (hc _).mono ?_; rintro e w4 ⟨rfl, hb4⟩; (first | (have ordA : True := trivial; have h54 : Below w5.heap.size w5 w4 := ((Below.refl _ _).drew).trans hb4) | (have ordB : True := trivial; have h54 : Below w5.heap.size w5 w4 := (((Below.refl _ _).drew).alloc (Nat.le_refl _) _).trans (hb4.mono (by simp)); have hgx0 := (hb4.block w5.heap.size (by simp)).trans (al_mine w5.drew 0 false 0 0 0 0); obtain ⟨x0, x1, x2, x3, x4, x5, fx0, fx1, fx2, fx3, fx4, fx5⟩ := rc_all hgx0)); have j0 := be_cell h54 v0; have j1 := be_cell h54 v1; have j2 := be_cell h54 v2; have j3 := be_cell h54 v3; have js := Nat.lt_of_lt_of_le vs1 h54.size; have jt := Nat.lt_of_lt_of_le vs2 h54.size; have jz := h54.size))
 ·have _t := ordA
  obtain ⟨w6, e6, HX, HG, QW, B6, gs, gw, bs⟩ := paf (m := m) (p := false) (A := A) (N := N) h54 vg vb QV js
  clear ordA
  clear h54 vg vb hb4 v0 v1 v2 v3 vs1 vs2 vn1 vn2 vn3 vn4 QV j0 j1 j2 j3 js jt jz
  rw [e6]
  clear e6
  generalize w4.heap.size = gx at *
  obtain ⟨r0, r1, r2, r3, r4, r5, f0, f1, f2, f3, f4, f5⟩ := rc_all HG
  go_wp2_with (first | (go_at_call 33; refine (HL.out _ gx HX QW.out gw).mono ?_; rintro e w7 ⟨rfl, hx7, hb7⟩; have hg7 := (hb7.block w.heap.size (by omega)).trans HG; have B7 : Below w.heap.size w w7 := B6.trans (hb7.mono (by omega)); clear r0 r1 r2 r3 r4 r5 f0 f1 f2 f3 f4 f5; obtain ⟨r0, r1, r2, r3, r4, r5, f0, f1, f2, f3, f4, f5⟩ := rc_all hg7; obtain ⟨x0, x1, x2, x3, x4, x5, y0, y1, y2, y3, y4, y5⟩ := rc_all hx7) | (go_at_call 10; refine (hM _).mono ?_; rintro e w8 ⟨rfl, hb8⟩; have hg8 := be_keep hb8 hg7; have hx8 := be_keep hb8 hx7; have B8 : Below w.heap.size w w8 := be_go hb8 B7 (Nat.le_refl _); clear r0 r1 r2 r3 r4 r5 f0 f1 f2 f3 f4 f5 x0 x1 x2 x3 x4 x5 y0 y1 y2 y3 y4 y5; obtain ⟨r0, r1, r2, r3, r4, r5, f0, f1, f2, f3, f4, f5⟩ := rc_all hg8; obtain ⟨x0, x1, x2, x3, x4, x5, y0, y1, y2, y3, y4, y5⟩ := rc_all hx8))
  exact bodyPost_ret (results_ct rfl _ _ w.heap.size 26 _ (0, 0) _ rfl (set6 hg8) Tryz.underlying26 rfl rfl) rfl ⟨rfl, set6_below B8 (Nat.le_refl _)⟩
 ·have _t := ordB
  obtain ⟨w6, e6, HX, HG, QW, B6, gs, gw, bs⟩ := pbf (m := m) (p := false) (A := A) (N := N) hgx0 h54 vg vb QV vs1
  clear ordB hgx0 x0 x1 x2 x3 x4 x5 fx0 fx1 fx2 fx3 fx4 fx5
  clear h54 vg vb hb4 v0 v1 v2 v3 vs1 vs2 vn1 vn2 vn3 vn4 QV j0 j1 j2 j3 js jt jz
  rw [e6]
  clear e6
  generalize w5.heap.size = gx at *
  obtain ⟨r0, r1, r2, r3, r4, r5, f0, f1, f2, f3, f4, f5⟩ := rc_all HG
  go_wp2_with (first | (go_at_call 33; refine (HL.out _ gx HX QW.out gw).mono ?_; rintro e w7 ⟨rfl, hx7, hb7⟩; have hg7 := (hb7.block w.heap.size (by omega)).trans HG; have B7 : Below w.heap.size w w7 := B6.trans (hb7.mono (by omega)); clear r0 r1 r2 r3 r4 r5 f0 f1 f2 f3 f4 f5; obtain ⟨r0, r1, r2, r3, r4, r5, f0, f1, f2, f3, f4, f5⟩ := rc_all hg7; obtain ⟨x0, x1, x2, x3, x4, x5, y0, y1, y2, y3, y4, y5⟩ := rc_all hx7) | (go_at_call 10; refine (hM _).mono ?_; rintro e w8 ⟨rfl, hb8⟩; have hg8 := be_keep hb8 hg7; have hx8 := be_keep hb8 hx7; have B8 : Below w.heap.size w w8 := be_go hb8 B7 (Nat.le_refl _); clear r0 r1 r2 r3 r4 r5 f0 f1 f2 f3 f4 f5 x0 x1 x2 x3 x4 x5 y0 y1 y2 y3 y4 y5; obtain ⟨r0, r1, r2, r3, r4, r5, f0, f1, f2, f3, f4, f5⟩ := rc_all hg8; obtain ⟨x0, x1, x2, x3, x4, x5, y0, y1, y2, y3, y4, y5⟩ := rc_all hx8))
  exact bodyPost_ret (results_ct rfl _ _ w.heap.size 26 _ (0, 0) _ rfl (set6 hg8) Tryz.underlying26 rfl rfl) rfl ⟨rfl, set6_below B8 (Nat.le_refl _)⟩
end Go.Proofs.YthngpkfckhmiiaaGreatDoor.X
end
section
set_option linter.unusedVariables false
set_option linter.unusedSimpArgs false
namespace Go.Proofs.YthngpkfckhmiiaaGreatDoor.X
open Go.RowKit Go.Proofs.YthngpkfckhmiiaaGreatDoorW.PrintWords Go.Proofs.YthngpkfckhmiiaaGreatDoor.Sl
theorem bytes_eq (s : ByteArray) (l : Array UInt8) : (s.toList == l.toList) = decide (s = ⟨l⟩) := by
 rw [ByteArray.toList_eq]
 by_cases h : s = ⟨l⟩
 ·subst h
  simp
 ·rw [decide_eq_false h, beq_eq_false_iff_ne]
  intro e
  apply h
  obtain ⟨d⟩ := s
  congr 1
  exact Array.toList_inj.1 e
theorem num_of {s : ByteArray} {m : Int} (h : plist_number.f s = some m) : num s = m := by simp [num, h]
theorem lim_all (g b o c : Nat) (r : List ByteArray) (s N A : Int) (p : Bool) (w : World) (hc : r.length ≤ c) (hg : w.heap[g]? = some (ruleCells s p A N 0 0)) (hbs : b < w.heap.size) (hne : b ≠ g)
  (hcell : ∀ (j : Nat) x, r[j]? = some x → w.cell? ⟨b, o + j, none⟩ = some (.string x)) (hall : ∀ x ∈ r, ∃ m, plist_number.f x = some m) :
  Calls Tryz.prog 33 #[.pointer (some ⟨g, 0, none⟩), .slice (some ⟨b, o, none⟩) r.length c] w fun e w' => LimPost g s p A N (limOut r).2.1 (limOut r).2.2 (limOut r).1 w e w' := by
 have hg' : w.heap[g]? = some (.cells #[.int .i64 s, .bool p, .int .u32 A, .int .i64 N, .int .i64 0, .int .i64 0] 26 (0, 0)) := hg
 match r, hc, hcell, hall with
 | [], hc, hcell, hall => exact lim_a g _ 0 c s N 0 0 A p w (by decide) hg'
 | [x], hc, hcell, hall =>
  have := lim_a g (some ⟨b, o, none⟩) 1 c s N 0 0 A p w (by decide) hg'
  exact this
 | x :: n :: r, hc, hcell, hall =>
  have h0 := hcell 0 x rfl
  have h1 := hcell 1 n rfl
  obtain ⟨m, hm⟩ := hall n (by simp)
  have hnm := num_of hm
  have hl2 : ¬ (((x :: n :: r).length : Nat) : Int) < 2 := by simp only [List.length_cons]; omega
  have hlen : (x :: n :: r).length = r.length + 2 := by simp
  have hl2' : (((x :: n :: r).length - 2 : Nat) : Int) = (r.length : Int) := by rw [hlen]; omega
  by_cases hx : x = geW
  ·subst hx
   by_cases hm0 : m = 0
   ·have e : limOut (geW :: n :: r) = (false, 0, 0) := by simp [limOut, hnm, hm0]
    rw [e]
    exact lim_ge0 g b o _ c s N 0 0 A p w hl2 hc hg' hbs hne h0 n h1 m hm (by simpa using hm0)
   ·match r, hc, hcell, hall, hl2, hlen, hl2' with
    | [], hc, hcell, hall, hl2, hlen, hl2' =>
     have e : limOut (geW :: n :: []) = (true, m, 0) := by simp [limOut, hnm, hm0]
     rw [e]
     exact lim_ge1 g b o _ c s N 0 0 A p w hl2 hc hg' hbs hne h0 n h1 m hm (by simpa using hm0) (by simp)
    | [y], hc, hcell, hall, hl2, hlen, hl2' =>
     have e : limOut (geW :: n :: [y]) = (false, m, 0) := by simp [limOut, hnm, hm0]
     rw [e]
     exact lim_ge1 g b o _ c s N 0 0 A p w hl2 hc hg' hbs hne h0 n h1 m hm (by simpa using hm0) (by simp)
    | y :: n2 :: r2, hc, hcell, hall, hl2, hlen, hl2' =>
     have h2 := hcell 2 y rfl
     have h3 := hcell 3 n2 rfl
     obtain ⟨m2, hm2⟩ := hall n2 (by simp)
     have hnm2 := num_of hm2
     have hlt : ¬ (((geW :: n :: y :: n2 :: r2).length - 2 : Nat) : Int) < 2 := by simp only [List.length_cons]; omega
     by_cases hy : y = leW
     ·subst hy
      by_cases hm20 : m2 = 0
      ·have e : limOut (geW :: n :: leW :: n2 :: r2) = (false, m, 0) := by simp [limOut, hnm, hm0, hnm2, hm20]
       rw [e]
       exact lim_ge3 g b o _ c s N 0 0 A p w hl2 hc hg' hbs hne h0 n h1 m hm (by simpa using hm0) hlt n2 h2 h3 m2 hm2 (by simpa using hm20)
      ·have e : limOut (geW :: n :: leW :: n2 :: r2) = ((((geW :: n :: leW :: n2 :: r2).length - 2 - 2 : Nat) : Int) == 0, m, m2) := by
        have e0 : (((geW :: n :: leW :: n2 :: r2).length - 2 - 2 : Nat) : Int) = (r2.length : Int) := by simp only [List.length_cons]; omega
        rw [e0]
        cases r2 <;> simp [limOut, hnm, hm0, hnm2, hm20]
        omega
       rw [e]
       exact lim_ge4 g b o _ c s N 0 0 A p w hl2 hc hg' hbs hne h0 n h1 m hm (by simpa using hm0) hlt n2 h2 h3 m2 hm2 (by simpa using hm20)
     ·have e : limOut (geW :: n :: y :: n2 :: r2) = ((((geW :: n :: y :: n2 :: r2).length - 2 : Nat) : Int) == 0, m, 0) := by
       have e0 : ((((geW :: n :: y :: n2 :: r2).length - 2 : Nat) : Int) == 0) = false := by rw [beq_eq_false_iff_ne]; simp only [List.length_cons]; omega
       rw [e0]
       simp [limOut, hnm, hm0, hy]
      rw [e]
      exact lim_ge2 g b o _ c s N 0 0 A p w hl2 hc hg' hbs hne h0 n h1 m hm (by simpa using hm0) hlt y h2 (by
       have := bytes_eq y #[108, 101]
       simp only at this
       rw [this]
       exact decide_eq_false hy)
  ·by_cases hx2 : x = leW
   ·subst hx2
    by_cases hm0 : m = 0
    ·have e : limOut (leW :: n :: r) = (false, 0, 0) := by simp [limOut, hnm, hm0, hx]
     rw [e]
     exact lim_le0 g b o _ c s N 0 0 A p w hl2 hc hg' hbs hne h0 n h1 m hm (by simpa using hm0)
    ·have e : limOut (leW :: n :: r) = ((((leW :: n :: r).length - 2 : Nat) : Int) == 0, 0, m) := by
      have e0 : (((leW :: n :: r).length - 2 : Nat) : Int) = (r.length : Int) := by simp only [List.length_cons]; omega
      rw [e0]
      cases r <;> simp [limOut, hnm, hm0, hx]
      omega
     rw [e]
     exact lim_le1 g b o _ c s N 0 0 A p w hl2 hc hg' hbs hne h0 n h1 m hm (by simpa using hm0)
   ·have e : limOut (x :: n :: r) = ((((x :: n :: r).length : Nat) : Int) == 0, 0, 0) := by
     have e0 : ((((x :: n :: r).length : Nat) : Int) == 0) = false := by rw [beq_eq_false_iff_ne]; simp only [List.length_cons]; omega
     rw [e0]
     simp [limOut, hx, hx2]
    rw [e]
    have q1 := bytes_eq x #[103, 101]
    have q2 := bytes_eq x #[108, 101]
    simp only at q1 q2
    exact lim_no g b o _ c s N 0 0 A p w hl2 hc hg' hbs hne x h0 (by rw [q1]; exact decide_eq_false hx) (by rw [q2]; exact decide_eq_false hx2)
end Go.Proofs.YthngpkfckhmiiaaGreatDoor.X
end
section
set_option linter.unusedVariables false
set_option linter.unusedSimpArgs false
namespace Go.Proofs.YthngpkfckhmiiaaGreatDoor.X
open Go.RowKit Go.Proofs.YthngpkfckhmiiaaGreatDoorW.PrintWords Go.Proofs.YthngpkfckhmiiaaGreatDoor.Sl
theorem may_calls (m : Int) (pm : Bool) (A N ge le : Int) (ok : Bool) (h : plist_May.f m pm A N ge le = some ok) (W : World) :
  Calls Tryz.prog 10 #[.agg #[.int .i64 m, .bool pm, .int .u32 A, .int .i64 N, .int .i64 ge, .int .i64 le]] W fun e w' => e = .returned (.bool ok) ∧ Below W.heap.size W w' := plist_May.calls m pm A N ge le ok W h
theorem plist_Parse.calls' (a0 : ByteArray) (r0 : Int) (r1 : Bool) (r2 r3 r4 r5 r6 : Int) (w : World) (hG : GW w) (h : plist_Parse.f a0 = some (r0, r1, r2, r3, r4, r5, r6)) :
  Calls Tryz.prog 8 #[.string a0] w fun e w' => e = .returned (.tuple #[.agg #[.int .i64 r0, .bool r1, .int .u32 r2, .int .i64 r3, .int .i64 r4, .int .i64 r5], .int .i64 r6]) ∧ Below w.heap.size w w' := by
 unfold plist_Parse.f plist_Parse.g at h
 obtain ⟨xs, hxs, h⟩ := Option.bind_eq_some_iff.1 h
 have hS : ∀ W : World, Below w.heap.size w W → Calls Tryz.prog 30 #[.string a0, .string ⟨#[32]⟩] W fun e w' => e = .returned (.slice (some ⟨W.heap.size, 0, none⟩) xs.length xs.length) ∧ Words W w' xs := by
  intro W hW
  unfold strings_Split.f at hxs
  split at hxs
  ·rename_i hs
   obtain rfl := Option.some.inj hxs
   obtain ⟨m, hm⟩ := (hG.below hW).m
   have hl := Lib.splitB_all ⟨#[32]⟩ hs.2 0 _ a0 rfl
   refine (Tryz.strings_Split a0 ⟨#[32]⟩ m W hs.1 hm hs.2).mono ?_
   rintro e w' ⟨rfl, rfl⟩
   refine ⟨by rw [hl], (Below.refl _ _).alloc (Nat.le_refl _) _, by simp, fun j s hj => ?_⟩
   rw [World.cell?_alloc_at _ 9 W.heap.size j rfl]
   simp [hj]
  ·cases hxs
 clear hxs
 match xs, h, hS with
 | [], h, hS =>
  simp only [Option.some.injEq, Prod.mk.injEq] at h
  obtain ⟨rfl, rfl, rfl, rfl, rfl, rfl, rfl⟩ := h
  exact parse_a a0 [] w hS (by simp)
 | [x], h, hS =>
  simp only [Option.some.injEq, Prod.mk.injEq] at h
  obtain ⟨rfl, rfl, rfl, rfl, rfl, rfl, rfl⟩ := h
  exact parse_a a0 [x] w hS (by simp)
 | [x, y], h, hS =>
  simp only [Option.some.injEq, Prod.mk.injEq] at h
  obtain ⟨rfl, rfl, rfl, rfl, rfl, rfl, rfl⟩ := h
  exact parse_a a0 [x, y] w hS (by simp)
 | s0 :: s1 :: s2 :: r, h, hS =>
  have hl : decide (((s0 :: s1 :: s2 :: r).length : Int) < 3) = false := decide_eq_false (by simp only [List.length_cons]; omega)
  obtain ⟨m, hn, h⟩ := Option.bind_eq_some_iff.1 h
  by_cases hm : m = 0
  ·rw [if_pos hm] at h
   simp only [Option.some.injEq, Prod.mk.injEq] at h
   obtain ⟨rfl, rfl, rfl, rfl, rfl, rfl, rfl⟩ := h
   exact parse_n a0 _ w s0 s1 s2 m rfl rfl rfl hS hl hn (by simpa using hm)
  rw [if_neg hm] at h
  have hm' : (m == 0) = false := by simpa using hm
  have hp : (s1.toList == [112, 101, 114, 109, 105, 116]) = decide (s1 = permitW) := bytes_eq s1 #[112, 101, 114, 109, 105, 116]
  have hd : (s1.toList == [100, 101, 110, 121]) = decide (s1 = denyW) := bytes_eq s1 #[100, 101, 110, 121]
  by_cases hpd : s1 ≠ permitW ∧ s1 ≠ denyW
  ·rw [if_pos hpd] at h
   simp only [Option.some.injEq, Prod.mk.injEq] at h
   obtain ⟨rfl, rfl, rfl, rfl, rfl, rfl, rfl⟩ := h
   exact parse_b a0 _ w s0 s1 s2 m rfl rfl rfl hS hl hn hm' (by rw [hp]; exact decide_eq_false hpd.1) (by rw [hd]; exact decide_eq_false hpd.2)
  rw [if_neg hpd] at h
  obtain ⟨⟨A, N, e3⟩, ha, h⟩ := Option.bind_eq_some_iff.1 h
  have hA : ∀ W : World, Below w.heap.size w W → Calls Tryz.prog 32 #[.string s2] W fun e w' => e = .returned (.tuple #[.agg #[.int .u32 A, .int .i64 N], .int .i64 e3]) ∧ Below W.heap.size W w' := fun W hW => addr_Parse.calls 100 s2 A N e3 W (hG.below hW) ha
  simp only at h
  by_cases he : e3 = 3
  ·rw [if_pos he] at h
   simp only [Option.some.injEq, Prod.mk.injEq] at h
   obtain ⟨rfl, rfl, rfl, rfl, rfl, rfl, rfl⟩ := h
   by_cases h1 : s1 = permitW
   ·exact parse_c_true a0 _ w s0 s1 s2 m rfl rfl rfl hS hl hn hm' (by rw [hp]; exact decide_eq_true h1) A N e3 hA (by simpa using he)
   ·have h2 : s1 = denyW := Classical.byContradiction fun h2 => hpd ⟨h1, h2⟩
    exact parse_c_false a0 _ w s0 s1 s2 m rfl rfl rfl hS hl hn hm' (by rw [hp]; exact decide_eq_false h1) (by rw [hd]; exact decide_eq_true h2) A N e3 hA (by simpa using he)
  rw [if_neg he] at h
  have he' : (e3 == 3) = false := by simpa using he
  by_cases hall0 : (r.all fun s => (plist_number.f s).isSome) = false
  ·rw [if_pos hall0] at h
   cases h
  rw [if_neg hall0] at h
  have hall : ∀ x ∈ r, ∃ m, plist_number.f x = some m := by
   intro x hx
   rw [Bool.not_eq_false] at hall0
   exact Option.isSome_iff_exists.1 (List.all_eq_true.1 hall0 x hx)
  have hL : ∀ (pm : Bool) (c o : Nat), r.length ≤ c → (∀ (j : Nat) (s : ByteArray), r[j]? = some s → (s0 :: s1 :: s2 :: r)[o + j]? = some s) → ∀ (W : World) (gx : Nat), W.heap[gx]? = some (ruleCells m pm A N 0 0) → (∀ (j : Nat) (s : ByteArray), (s0 :: s1 :: s2 :: r)[j]? = some s → W.cell? ⟨w.heap.size + 1, j, none⟩ = some (.string s)) → w.heap.size + 1 < gx →
    Calls Tryz.prog 33 #[.pointer (some ⟨gx, 0, none⟩), .slice (some ⟨w.heap.size + 1, o, none⟩) r.length c] W fun e w' => LimPost gx m pm A N (limOut r).2.1 (limOut r).2.2 (limOut r).1 W e w' := by
   intro pm c o hc ho W gx hx hw hlt
   have hgx : gx < W.heap.size := blk_lt hx
   exact lim_all gx (w.heap.size + 1) o c r m N A pm W hc hx (by omega) (by omega) (fun j x hj => hw _ _ (ho j x hj)) hall
  have h3n : ∀ (j : Nat) (s : ByteArray), r[j]? = some s → (s0 :: s1 :: s2 :: r)[3 + j]? = some s := fun j s hj => by rw [Nat.add_comm]; simpa using hj
  unfold limits at h
  generalize hlo : limOut r = lo at h hL
  obtain ⟨lb, ge, le⟩ := lo
  simp only at h hL
  by_cases hr : r = []
  ·subst hr
   have h3 : (s0 :: s1 :: s2 :: ([] : List ByteArray)).length = 3 := rfl
   have hL0 := fun pm => hL pm 0 0 (Nat.le_refl _) (fun j s hj => by simp at hj)
   cases lb
   ·simp only [Bool.false_eq_true, if_false, Option.some.injEq, Prod.mk.injEq] at h
    obtain ⟨rfl, rfl, rfl, rfl, rfl, rfl, rfl⟩ := h
    by_cases h1 : s1 = permitW
    ·exact parse_l3_true a0 _ w s0 s1 s2 m rfl rfl rfl hS hl hn hm' (by rw [hp]; exact decide_eq_true h1) A N e3 hA he' ge le h3 (hL0 true)
    ·have h2 : s1 = denyW := Classical.byContradiction fun h2 => hpd ⟨h1, h2⟩
     exact parse_l3_false a0 _ w s0 s1 s2 m rfl rfl rfl hS hl hn hm' (by rw [hp]; exact decide_eq_false h1) (by rw [hd]; exact decide_eq_true h2) A N e3 hA he' ge le h3 (hL0 false)
   ·simp only [if_true] at h
    by_cases he0 : e3 = 0
    ·subst he0
     rw [if_neg (by decide)] at h
     obtain ⟨ok, hok, h⟩ := Option.bind_eq_some_iff.1 h
     by_cases h1 : s1 = permitW
     ·rw [decide_eq_true h1] at hok h
      cases ok
      ·simp only [if_true, Option.some.injEq, Prod.mk.injEq] at h
       obtain ⟨rfl, rfl, rfl, rfl, rfl, rfl, rfl⟩ := h
       exact parse_m3_true a0 _ w s0 s1 s2 m rfl rfl rfl hS hl hn hm' (by rw [hp]; exact decide_eq_true h1) A N hA ge le h3 (hL0 true) (may_calls m true A N ge le false hok)
      ·rw [if_neg (by decide)] at h
       simp only [Option.some.injEq, Prod.mk.injEq] at h
       obtain ⟨rfl, rfl, rfl, rfl, rfl, rfl, rfl⟩ := h
       exact parse_o3_true a0 _ w s0 s1 s2 m rfl rfl rfl hS hl hn hm' (by rw [hp]; exact decide_eq_true h1) A N hA ge le h3 (hL0 true) (may_calls m true A N ge le true hok)
     ·have h2 : s1 = denyW := Classical.byContradiction fun h2 => hpd ⟨h1, h2⟩
      rw [decide_eq_false h1] at hok h
      cases ok
      ·simp only [if_true, Option.some.injEq, Prod.mk.injEq] at h
       obtain ⟨rfl, rfl, rfl, rfl, rfl, rfl, rfl⟩ := h
       exact parse_m3_false a0 _ w s0 s1 s2 m rfl rfl rfl hS hl hn hm' (by rw [hp]; exact decide_eq_false h1) (by rw [hd]; exact decide_eq_true h2) A N hA ge le h3 (hL0 false) (may_calls m false A N ge le false hok)
      ·rw [if_neg (by decide)] at h
       simp only [Option.some.injEq, Prod.mk.injEq] at h
       obtain ⟨rfl, rfl, rfl, rfl, rfl, rfl, rfl⟩ := h
       exact parse_o3_false a0 _ w s0 s1 s2 m rfl rfl rfl hS hl hn hm' (by rw [hp]; exact decide_eq_false h1) (by rw [hd]; exact decide_eq_true h2) A N hA ge le h3 (hL0 false) (may_calls m false A N ge le true hok)
    ·rw [if_pos he0] at h
     simp only [Option.some.injEq, Prod.mk.injEq] at h
     obtain ⟨rfl, rfl, rfl, rfl, rfl, rfl, rfl⟩ := h
     by_cases h1 : s1 = permitW
     ·exact parse_e3_true a0 _ w s0 s1 s2 m rfl rfl rfl hS hl hn hm' (by rw [hp]; exact decide_eq_true h1) A N e3 hA he' (by simpa using he0) ge le h3 (hL0 true)
     ·have h2 : s1 = denyW := Classical.byContradiction fun h2 => hpd ⟨h1, h2⟩
      exact parse_e3_false a0 _ w s0 s1 s2 m rfl rfl rfl hS hl hn hm' (by rw [hp]; exact decide_eq_false h1) (by rw [hd]; exact decide_eq_true h2) A N e3 hA he' (by simpa using he0) ge le h3 (hL0 false)
  ·have hrl : 0 < r.length := List.length_pos_iff.2 hr
   have h3 : ¬ (s0 :: s1 :: s2 :: r).length = 3 := by simp only [List.length_cons]; omega
   have hrlen : r.length = (s0 :: s1 :: s2 :: r).length - 3 := by simp only [List.length_cons]; omega
   have hL0 := fun pm => hL pm r.length 3 (Nat.le_refl _) h3n
   rw [hrlen] at hL0
   cases lb
   ·simp only [Bool.false_eq_true, if_false, Option.some.injEq, Prod.mk.injEq] at h
    obtain ⟨rfl, rfl, rfl, rfl, rfl, rfl, rfl⟩ := h
    by_cases h1 : s1 = permitW
    ·exact parse_ln_true a0 _ w s0 s1 s2 m rfl rfl rfl hS hl hn hm' (by rw [hp]; exact decide_eq_true h1) A N e3 hA he' ge le h3 (hL0 true)
    ·have h2 : s1 = denyW := Classical.byContradiction fun h2 => hpd ⟨h1, h2⟩
     exact parse_ln_false a0 _ w s0 s1 s2 m rfl rfl rfl hS hl hn hm' (by rw [hp]; exact decide_eq_false h1) (by rw [hd]; exact decide_eq_true h2) A N e3 hA he' ge le h3 (hL0 false)
   ·simp only [if_true] at h
    by_cases he0 : e3 = 0
    ·subst he0
     rw [if_neg (by decide)] at h
     obtain ⟨ok, hok, h⟩ := Option.bind_eq_some_iff.1 h
     by_cases h1 : s1 = permitW
     ·rw [decide_eq_true h1] at hok h
      cases ok
      ·simp only [if_true, Option.some.injEq, Prod.mk.injEq] at h
       obtain ⟨rfl, rfl, rfl, rfl, rfl, rfl, rfl⟩ := h
       exact parse_mn_true a0 _ w s0 s1 s2 m rfl rfl rfl hS hl hn hm' (by rw [hp]; exact decide_eq_true h1) A N hA ge le h3 (hL0 true) (may_calls m true A N ge le false hok)
      ·rw [if_neg (by decide)] at h
       simp only [Option.some.injEq, Prod.mk.injEq] at h
       obtain ⟨rfl, rfl, rfl, rfl, rfl, rfl, rfl⟩ := h
       exact parse_on_true a0 _ w s0 s1 s2 m rfl rfl rfl hS hl hn hm' (by rw [hp]; exact decide_eq_true h1) A N hA ge le h3 (hL0 true) (may_calls m true A N ge le true hok)
     ·have h2 : s1 = denyW := Classical.byContradiction fun h2 => hpd ⟨h1, h2⟩
      rw [decide_eq_false h1] at hok h
      cases ok
      ·simp only [if_true, Option.some.injEq, Prod.mk.injEq] at h
       obtain ⟨rfl, rfl, rfl, rfl, rfl, rfl, rfl⟩ := h
       exact parse_mn_false a0 _ w s0 s1 s2 m rfl rfl rfl hS hl hn hm' (by rw [hp]; exact decide_eq_false h1) (by rw [hd]; exact decide_eq_true h2) A N hA ge le h3 (hL0 false) (may_calls m false A N ge le false hok)
      ·rw [if_neg (by decide)] at h
       simp only [Option.some.injEq, Prod.mk.injEq] at h
       obtain ⟨rfl, rfl, rfl, rfl, rfl, rfl, rfl⟩ := h
       exact parse_on_false a0 _ w s0 s1 s2 m rfl rfl rfl hS hl hn hm' (by rw [hp]; exact decide_eq_false h1) (by rw [hd]; exact decide_eq_true h2) A N hA ge le h3 (hL0 false) (may_calls m false A N ge le true hok)
    ·rw [if_pos he0] at h
     simp only [Option.some.injEq, Prod.mk.injEq] at h
     obtain ⟨rfl, rfl, rfl, rfl, rfl, rfl, rfl⟩ := h
     by_cases h1 : s1 = permitW
     ·exact parse_en_true a0 _ w s0 s1 s2 m rfl rfl rfl hS hl hn hm' (by rw [hp]; exact decide_eq_true h1) A N e3 hA he' (by simpa using he0) ge le h3 (hL0 true)
     ·have h2 : s1 = denyW := Classical.byContradiction fun h2 => hpd ⟨h1, h2⟩
      exact parse_en_false a0 _ w s0 s1 s2 m rfl rfl rfl hS hl hn hm' (by rw [hp]; exact decide_eq_false h1) (by rw [hd]; exact decide_eq_true h2) A N e3 hA he' (by simpa using he0) ge le h3 (hL0 false)
end Go.Proofs.YthngpkfckhmiiaaGreatDoor.X
end
section
set_option linter.unusedVariables false
set_option linter.unusedSimpArgs false
namespace Go.Proofs.YthngpkfckhmiiaaGreatDoor.X
open Go.RowKit Go.Proofs.YthngpkfckhmiiaaGreatDoorW.PrintWords Go.Proofs.YthngpkfckhmiiaaGreatDoor.Sl
theorem plist_Drop.calls (A0 : Option Addr) (c0 : Nat) (l0 : List S26) (a1 : Int) (r0 : List S26) (r1 : Int) (w : World) (hr0 : Kd.C k26 w A0 l0.length l0) (hc0 : l0.length ≤ c0) (h : plist_Drop.f l0 a1 = some (r0, r1)) :
    Calls Tryz.prog 21 #[.slice A0 l0.length c0, .int .i64 a1] w fun e w' => ∃ v0_ : Value, e = .returned (.tuple #[v0_, .int .i64 r1]) ∧ Kd.R k26 26 w' w.heap.size (fun _ => True) v0_ r0 ∧ Below w.heap.size w w' := plist_Drop.calls' A0 c0 l0 a1 r0 r1 w hr0 hc0 h
theorem plist_Eval.calls (A0 : Option Addr) (c0 : Nat) (l0 : List S26) (a1_0 a1_1 : Int) (r0 : Bool) (r1 : Int) (w : World) (hr0 : Kd.C k26 w A0 l0.length l0) (hc0 : l0.length ≤ c0) (h : plist_Eval.f l0 a1_0 a1_1 = some (r0, r1)) :
    Calls Tryz.prog 22 #[.slice A0 l0.length c0, .agg #[.int .u32 a1_0, .int .i64 a1_1]] w fun e w' => e = .returned (.tuple #[.bool r0, .int .i64 r1]) ∧ Below w.heap.size w w' := plist_Eval.calls' A0 c0 l0 a1_0 a1_1 r0 r1 w hr0 hc0 h
theorem plist_Add.calls (A0 : Option Addr) (c0 : Nat) (l0 : List S26) (a1_0 : Int) (a1_1 : Bool) (a1_2 a1_3 a1_4 a1_5 : Int) (r0 : List S26) (r1 : Int) (w : World) (hr0 : Kd.C k26 w A0 l0.length l0) (hc0 : l0.length ≤ c0) (h : plist_Add.f l0 a1_0 a1_1 a1_2 a1_3 a1_4 a1_5 = some (r0, r1)) :
    Calls Tryz.prog 23 #[.slice A0 l0.length c0, .agg #[.int .i64 a1_0, .bool a1_1, .int .u32 a1_2, .int .i64 a1_3, .int .i64 a1_4, .int .i64 a1_5]] w fun e w' => ∃ v0_ : Value, e = .returned (.tuple #[v0_, .int .i64 r1]) ∧ Kd.R k26 26 w' w.heap.size (fun _ => True) v0_ r0 ∧ Below w.heap.size w w' := plist_Add.calls' A0 c0 l0 a1_0 a1_1 a1_2 a1_3 a1_4 a1_5 r0 r1 w hr0 hc0 h
theorem plist_Parse.calls (a0 : ByteArray) (r0 : Int) (r1 : Bool) (r2 r3 r4 r5 r6 : Int) (w : World) (hG : GW w) (h : plist_Parse.f a0 = some (r0, r1, r2, r3, r4, r5, r6)) :
    Calls Tryz.prog 8 #[.string a0] w fun e w' => e = .returned (.tuple #[.agg #[.int .i64 r0, .bool r1, .int .u32 r2, .int .i64 r3, .int .i64 r4, .int .i64 r5], .int .i64 r6]) ∧ Below w.heap.size w w' := plist_Parse.calls' a0 r0 r1 r2 r3 r4 r5 r6 w hG h
end Go.Proofs.YthngpkfckhmiiaaGreatDoor.X
end
section
namespace Go.Proofs.YthngpkfckhmiiaaGreatDoor.X
open Go.RowKit Go.Proofs.YthngpkfckhmiiaaGreatDoorW.PrintWords Go.Proofs.YthngpkfckhmiiaaGreatDoorW.PrintLast Go.Proofs.YthngpkfckhmiiaaGreatDoorW.PrintMore
attribute [local go_sem] max2_int min2_int max_two min_two max_three min_three max_four min_four   -- for this text's walks alone
set_option linter.unusedVariables false
set_option linter.unusedSimpArgs false
def addr_Text.l0 : Nat → List ByteArray → Int → Int → Int → Option (ByteArray)
 | 0, _, _, _, _ => none
 | k + 1, x3, x4, x142000, x142001 => if x4 ≥ 0 then (if 0 ≤ x4 then ((strconv_Itoa.f (wrap64 (Go.bits .and .u32 (shr .u32 x142000 x4) 255))).bind fun t142 => (if x3.length < 8796093022208 then (addr_Text.l0 k (x3 ++ [t142]) (wrap64 (x4 - 8)) x142000 x142001) else (none))) else (none)) else ((strings_Join.f x3 (⟨#[46]⟩ : ByteArray)).bind fun t146 => (if t146.size + 1 ≤ 9223372036854775807 then ((strconv_Itoa.f x142001).bind fun t147 => (if t146.size + 1 + t147.size ≤ 9223372036854775807 then (some ((t146 ++ (⟨#[47]⟩ : ByteArray)) ++ t147)) else (none))) else (none)))
def addr_Text.f (k : Nat) (a0_0 : Int) (a0_1 : Int) : Option (ByteArray) := addr_Text.l0 k ([] : List ByteArray) 24 a0_0 a0_1
theorem addr_Text.mono_l : ∀ k, (∀ y0 y1 y2 y3, LeO (addr_Text.l0 k y0 y1 y2 y3) (addr_Text.l0 (k + 1) y0 y1 y2 y3))
 | 0 => fun _ _ _ _ r h => by simp [addr_Text.l0] at h
 | k + 1 => by
  have ih0 := addr_Text.mono_l k
  ·intro y0 y1 y2 y3
   unfold addr_Text.l0
   repeat' first
   | (with_reducible exact ih0 _ _ _ _)
   | (with_reducible exact LeO.refl _)
   | (with_reducible exact LeO.none _)
   | (with_reducible refine LeO.ite ?_ ?_)
   | (with_reducible refine LeO.bind ?_ (fun _ => ?_))
   | exact ih0 _ _ _ _
   | exact LeO.none _
   | refine LeO.ite ?_ ?_
   | refine LeO.bind ?_ (fun _ => ?_)
theorem addr_Text.mono : ∀ a0 a1 k, LeO (addr_Text.f k a0 a1) (addr_Text.f (k + 1) a0 a1) := by
 intro a0 a1 k
 have ih0 := addr_Text.mono_l k
 unfold addr_Text.f
 repeat' first
   | (with_reducible exact ih0 _ _ _ _)
   | (with_reducible exact LeO.refl _)
   | (with_reducible exact LeO.none _)
   | (with_reducible refine LeO.ite ?_ ?_)
   | (with_reducible refine LeO.bind ?_ (fun _ => ?_))
   | exact ih0 _ _ _ _
   | exact LeO.none _
   | refine LeO.ite ?_ ?_
   | refine LeO.bind ?_ (fun _ => ?_)
def addr_Text.T6 : Bool × List (List Nat × List Nat) := (true, [([], []), ([0], [0]), ([1], [1]), ([], []), ([3], [3]), ([4, 1], [4]), ([2, 5], [2, 5]), ([6, 5, 0, 1, 2, 3, 4, 5, 6], [6])])
def addr_Text.B6 : List Nat := [0, 1, 3, 0, 8, 27, 63, 127]
theorem addr_Text.tab6 : rtab .any (opsOf Tryz.f35 6) = addr_Text.T6 := by kernel_rfl
theorem addr_Text.bits6 : waitsOk addr_Text.T6.2 addr_Text.B6 = true := by kernel_rfl
set_option maxHeartbeats 8000000 in
set_option maxRecDepth 100000 in
theorem addr_Text.calls (k : Nat) (a0_0 : Int) (a0_1 : Int) (r : ByteArray) (w : World) (hG : GW w) (h : addr_Text.f k a0_0 a0_1 = some r) :
  Calls Tryz.prog 35 #[.agg #[.int .u32 a0_0, .int .i64 a0_1]] w fun e w' => e = .returned (.string r) ∧ Below w.heap.size w w' := by
 have hu24 := Tryz.underlying24
 have HB := Aside0.mk (Below.refl w.heap.size w)
 have H : (addr_Text.l0 k ([] : List ByteArray) 24 a0_0 a0_1) = some r := h
 clear h
 have H' := Aside0.mk H
 clear H
 go_enter Tryz.func35, Tryz.ntmps35
 go_wp2_with (first | ((with_reducible refine gate_dst (N := 1) rfl ?_); refine box_event ?hg (N := 1) ?hd (cs := #[.int .u32 a0_0, .int .i64 a0_1]) (t := 24) ?hr ?_; (case hd => rfl); (case hg => rfl); (case hr => first | (go_simp; done)); intro gb141 hg w2 hbox hb; have n0_ := Aside0.mk (below_step (by repeat (first | (with_reducible first | exact HB.out))) hb); have n1_ := Aside0.mk (hbox); have n2_ := Aside0.mk ((by rw [hg]; exact (below_size (by repeat (first | (with_reducible first | exact HB.out)))) : w.heap.size ≤ gb141)); have n3_ := Aside0.mk ((by rw [hg]; exact (below_size (by repeat (first | (with_reducible first | exact HB.out)))) : w.heap.size ≤ gb141)); clear HB; have HB := n0_; have BK141 := n1_; have GW141 := n2_; have GE141 := n3_; clear n0_ n1_ n2_ n3_; clear hb hbox hg))
 go_loopg [3, 4] k (fun kq v3 v4 w' => ∃ (x3_1 : List ByteArray) (x4_1 : Int), v4 = .int .i64 x4_1 ∧ Aside0 (addr_Text.l0 kq x3_1 x4_1 a0_0 a0_1 = some r) ∧ Aside0 (kq ≤ k) ∧ Aside0 (Kd.R Kd.string 9 w' w.heap.size (fun _ => True) v3 x3_1) ∧ Aside0 (w'.heap[gb141]? = some (.cells #[.int .u32 a0_0, .int .i64 a0_1] 24 (0, 0))) ∧ Aside0 (Below w.heap.size w w'))
 case atStart => exact ⟨(([] : List ByteArray)), (24), (by first | rfl), H', ⟨Nat.le_refl _⟩, ⟨by first | exact Kd.R_nil _ _ _ _ _⟩, ⟨by (with_reducible repeat (fail)); exact BK141.out⟩, ⟨by repeat (first | (with_reducible first | exact HB.out))⟩⟩
 case round =>
  clear H'
  try clear p2
  obtain ⟨x3_1, x4_1, rfl, HA, HK1, HO_3, BK141, HB⟩ := hrel
  cases gk with
  | zero => exact absurd HA.out (by simp [addr_Text.l0])
  | succ k1 =>
   have H := HA.out
   clear HA
   simp only [addr_Text.l0] at H
   by_cases c3 : x4_1 ≥ 0
   ·rw [if_pos c3] at H
    have c3b0 : decide (0 ≤ x4_1) = true := decide_eq_true c3
    clear c3
    by_cases c4 : 0 ≤ x4_1
    ·rw [if_pos c4] at H
     have c4b0 := eq_true c4
     have c4b1 : decide (0 ≤ x4_1) = true := decide_eq_true c4
     clear c4
     obtain ⟨ji5, hji5⟩ : ∃ j_ : Int, (shr .u32 a0_0 x4_1) = j_ := ⟨_, rfl⟩
     replace H : ((strconv_Itoa.f (wrap64 (Go.bits .and .u32 (ji5) 255))).bind fun t142 => (if x3_1.length < 8796093022208 then (addr_Text.l0 k1 (x3_1 ++ [t142]) (wrap64 (x4_1 - 8)) a0_0 a0_1) else (none))) = some r := by first | (rw [hji5] at H; exact H)
     have hji5_ : (a0_0 / 2 ^ min x4_1.toNat 32) = ji5 := hji5
     have hji5z : x4_1 ≤ 32 → (a0_0 / 2 ^ x4_1.toNat) = ji5 := shr_small hji5
     replace H := Option.bind_eq_some_iff.mp H
     obtain ⟨t142, A60, H⟩ := H
     replace H : (if x3_1.length < 8796093022208 then (addr_Text.l0 k1 (x3_1 ++ [t142]) (wrap64 (x4_1 - 8)) a0_0 a0_1) else (none)) = some r := H
     have A6 := Aside0.mk A60
     clear A60
     by_cases c7 : x3_1.length < 8796093022208
     ·rw [if_pos c7] at H
      have LMc7 := Aside0.mk c7
      clear c7
      obtain ⟨y143, hy143⟩ : ∃ y_ : List ByteArray, y_ = (x3_1 ++ [t142]) := ⟨_, rfl⟩
      replace H : (addr_Text.l0 k1 y143 (wrap64 (x4_1 - 8)) a0_0 a0_1) = some r := by first | (rw [hy143]; with_reducible exact H)
      have Ny143 := Aside0.mk hy143
      clear hy143
      have H' := Aside0.mk H
      clear H
      have hcz8_0 : wr.cell? ⟨gb141, 0, none⟩ = some (.int .u32 a0_0) := (blk_cell BK141.out 0).trans rfl
      have hcz8_1 : wr.cell? ⟨gb141, 1, none⟩ = some (.int .i64 a0_1) := (blk_cell BK141.out 1).trans rfl
      have hfz8_0 := blk_frozen BK141.out 0
      have hfz8_1 := blk_frozen BK141.out 1
      go_wp2_with (first | ((with_reducible refine gate_callee (f := 34) rfl ?_); refine goesL_ (some 16) rfl rfl Tryz.func34 (by kernel_rfl) rfl #[.int .i64 (wrap64 (Go.bits .and .u32 (ji5) 255))] rfl (by (try simp only [List.map_toArray, List.map_cons, List.map_nil]); first | rfl) ?_; (with_reducible refine (strconv_Itoa.calls (wrap64 (Go.bits .and .u32 (ji5) 255)) t142 _ ?side1 A6.out).mono ?_); (case side1 => exact GW.below hG (by repeat (first | (with_reducible first | exact HB.out)))); rintro e w9 ⟨rfl, hb⟩; refine ⟨_, rfl, ?_⟩; have n0_ := Aside0.mk (Kd.R_below (by (with_reducible repeat (fail)); exact HO_3.out) hb); have n1_ := Aside0.mk (blk_below (g := gb141) (o := .cells #[.int .u32 a0_0, .int .i64 a0_1] 24 (0, 0)) (by (with_reducible repeat (fail)); exact BK141.out) hb); have n2_ := Aside0.mk (below_step (by repeat (first | (with_reducible first | exact HB.out))) hb); clear HO_3; clear BK141; clear HB; have HO_3 := n0_; have BK141 := n1_; have HB := n2_; clear n0_ n1_ n2_; (try clear hb); (try clear hb2); (try clear hk); (try clear hi)) | ((with_reducible refine gate_builtin (b := .append) (xs := #[.tmp 9, .tmp 17]) rfl ?_); at_builtin; refine Kd.R_append Kd.string (w0 := w) w.heap.size rfl (.tmp 9) (.tmp 17) 62 9 (.string ⟨#[]⟩) 16 rfl Tryz.underlying62 info9 rfl (by decide) (by omega) u3 x3_1 t142 [.string t142] (fun _ => True) (fun _ => False) rfl rfl ?aP (fun _ hk => hk.elim) ?aF ?aO ?aB ?aS ?aL ?_; (case aP => exact rfl); (case aB => exact (by repeat (first | (with_reducible first | exact HB.out)))); (case aF => exact (fun _ _ => trivial)); (case aO => exact (by (with_reducible repeat (fail)); exact HO_3.out)); (case aS => exact (below_size (by repeat (first | (with_reducible first | exact HB.out))))); (case aL => have := LMc7.out; omega); intro v144 w10 ho hb hg hat; rw [← Ny143.out] at ho; have n0_ := Aside0.mk (blk_grown (g := gb141) (o := .cells #[.int .u32 a0_0, .int .i64 a0_1] 24 (0, 0)) (by (with_reducible repeat (fail)); exact BK141.out) hg (Kd.R_ne HO_3.out BK141.out (by decide))); have n1_ := Aside0.mk (hb); have n2_ := Aside0.mk (ho); clear BK141; clear HB; clear HO_3; have BK141 := n0_; have HB := n1_; have HO145 := n2_; clear n0_ n1_ n2_; clear ho hb hg hat))
      go_roundg k1
      case measure => have := HK1.out; omega
      case rel => exact ⟨(y143), (wrap64 (x4_1 - 8)), (by first | rfl), H', ⟨by have := HK1.out; omega⟩, ⟨by (with_reducible repeat (fail)); exact HO145.out⟩, ⟨by (with_reducible repeat (fail)); exact BK141.out⟩, ⟨by repeat (first | (with_reducible first | exact HB.out))⟩⟩
     ·rw [if_neg c7] at H
      exact absurd H (by simp)
    ·rw [if_neg c4] at H
     exact absurd H (by simp)
   ·rw [if_neg c3] at H
    have c3b0 : decide (0 ≤ x4_1) = false := decide_eq_false c3
    clear c3
    replace H := Option.bind_eq_some_iff.mp H
    obtain ⟨t146, A110, H⟩ := H
    replace H : (if t146.size + 1 ≤ 9223372036854775807 then ((strconv_Itoa.f a0_1).bind fun t147 => (if t146.size + 1 + t147.size ≤ 9223372036854775807 then (some ((t146 ++ (⟨#[47]⟩ : ByteArray)) ++ t147)) else (none))) else (none)) = some r := H
    have A11 := Aside0.mk A110
    clear A110
    by_cases c12 : t146.size + 1 ≤ 9223372036854775807
    ·rw [if_pos c12] at H
     have c12b0 := eq_true c12
     have c12b1 : decide (t146.size + 1 ≤ 9223372036854775807) = true := decide_eq_true c12
     try have c12b2 : (9223372036854775807 < t146.size + 1) = False := eq_false (Nat.not_lt.2 c12)
     replace H := Option.bind_eq_some_iff.mp H
     obtain ⟨t147, A130, H⟩ := H
     replace H : (if t146.size + 1 + t147.size ≤ 9223372036854775807 then (some ((t146 ++ (⟨#[47]⟩ : ByteArray)) ++ t147)) else (none)) = some r := H
     have A13 := Aside0.mk A130
     clear A130
     by_cases c14 : t146.size + 1 + t147.size ≤ 9223372036854775807
     ·rw [if_pos c14] at H
      have c14b0 := eq_true c14
      have c14b1 : decide (t146.size + 1 + t147.size ≤ 9223372036854775807) = true := decide_eq_true c14
      try have c14b2 : (9223372036854775807 < t146.size + 1 + t147.size) = False := eq_false (Nat.not_lt.2 c14)
      obtain rfl := Option.some.inj H
      try go_wp2
      have n0_ := Aside0.mk (Kd.R_drew HO_3.out)
      have n1_ := Aside0.mk (blk_drew BK141.out)
      have n2_ := Aside0.mk (below_drew1 HB.out)
      clear HO_3
      clear BK141
      clear HB
      have HO_3 := n0_
      have BK141 := n1_
      have HB := n2_
      clear n0_ n1_ n2_
      obtain ⟨Ao16, co16, eo16⟩ := Kd.R_slice HO_3.out
      (first | subst eo16)
      refine start_ (n := 8) (S := fun w' => w'.cell? ⟨gb141, 0, none⟩ = some (.int .u32 a0_0) ∧ w'.cell? ⟨gb141, 1, none⟩ = some (.int .i64 a0_1)) (ds := []) #[false, false, false, false, false, false, false, false] (by kernel_rfl) rfl rfl ⟨(blk_cell BK141.out 0).trans rfl, (blk_cell BK141.out 1).trans rfl⟩ (fun hHeld => ?_); refine with_tabW addr_Text.tab6 addr_Text.bits6 (fun HT_ HW_ => ?_)
      generalize wr.drew = w15 at HO_3 BK141 HB hHeld ⊢
      refine pure_ (i := 0) (N := some 19) (v := ?_) (a' := ?_) #[true, false, false, false, false, false, false, false] rfl rfl (any_of HT_.out (by kernel_rfl)) (fun _ _ _ h => h) (Or.inl ⟨by rfl, ?_⟩) ?_ ?_
      rotate_left
      ·intro w'
       go_simp
       with_reducible rfl
      rotate_left
      ·simp only [Act.put, List.setIfInBounds_toArray, List.set_cons_zero, List.set_cons_succ, i64_w, i32_w]
       rfl
      refine pure_ (i := 3) (N := some 22) (v := ?_) (a' := ?_) #[true, false, false, true, false, false, false, false] rfl rfl (any_of HT_.out (by kernel_rfl)) (fun _ _ _ h => h) (Or.inl ⟨by rfl, ?_⟩) ?_ ?_
      rotate_left
      ·intro w'
       go_simp
       with_reducible rfl
      rotate_left
      ·simp only [Act.put, List.setIfInBounds_toArray, List.set_cons_zero, List.set_cons_succ, i64_w, i32_w]
       rfl
      refine take_ (i := 4) (N := some 23) (v := ?_) (a' := ?_) #[true, false, false, true, true, false, false, false] rfl rfl (take_ofW HT_.out HW_.out (by kernel_rfl)) (fun _ _ _ h => h) (Or.inl ⟨by rfl, ?_⟩) hHeld ?_ ?_
      rotate_left
      ·rintro w' ⟨s0, s1⟩
       go_simp
       with_reducible rfl
      rotate_left
      ·simp only [Act.put, List.setIfInBounds_toArray, List.set_cons_zero, List.set_cons_succ, i64_w, i32_w]
       rfl
      refine one_ (i := 1) (N := some 20) #[true, true, false, true, true, false, false, false] rfl rfl (one_of HT_.out (by kernel_rfl)) (by decide) (fun K hK => ?_)
      refine goes_ Tryz.func36 (by kernel_rfl) rfl #[.slice Ao16 x3_1.length co16, .string (⟨#[46]⟩ : ByteArray)] (by rfl) rfl rfl (by (try simp only [List.map_toArray, List.map_cons, List.map_nil]); first | rfl) ?_
      with_reducible refine (strings_Join.calls _ _ x3_1 (⟨#[46]⟩ : ByteArray) t146 _ ?side1 ?side2 A11.out).mono ?_
      (case side1 => repeat (first | exact (Kd.R_reads' HO_3.out).2.2))
      (case side2 => exact (Kd.R_reads' HO_3.out).2.1)
      rintro e w17 ⟨rfl, hb⟩
      refine ⟨_, rfl, ?_⟩
      have n0_ := Aside0.mk (Kd.R_below (by (with_reducible repeat (fail)); exact HO_3.out) hb)
      have n1_ := Aside0.mk (blk_below (g := gb141) (o := .cells #[.int .u32 a0_0, .int .i64 a0_1] 24 (0, 0)) (by (with_reducible repeat (fail)); exact BK141.out) hb)
      have n2_ := Aside0.mk (below_step (by repeat (first | (with_reducible first | exact HB.out))) hb)
      clear HO_3
      clear BK141
      clear HB
      have HO_3 := n0_
      have BK141 := n1_
      have HB := n2_
      clear n0_ n1_ n2_
      (try clear hb)
      (try clear hb2)
      (try clear hk)
      (try clear hi)
      refine hK.out _ _ ⟨(blk_cell BK141.out 0).trans rfl, (blk_cell BK141.out 1).trans rfl⟩ (fun hHeld => ?_)
      clear hK K
      refine norm_ (a' := ?_) ?_ ?_
      rotate_left
      ·show Act.put _ (some 20) _ = _
       simp only [Act.put, List.setIfInBounds_toArray, List.set_cons_zero, List.set_cons_succ, i64_w, i32_w]
       rfl
      refine pure_ (i := 2) (N := some 21) (v := ?_) (a' := ?_) #[true, true, true, true, true, false, false, false] rfl rfl (any_of HT_.out (by kernel_rfl)) (fun _ _ _ h => h) (Or.inl ⟨by rfl, ?_⟩) ?_ ?_
      rotate_left
      ·intro w'
       go_simp
       with_reducible rfl
      rotate_left
      ·simp only [Act.put, List.setIfInBounds_toArray, List.set_cons_zero, List.set_cons_succ, i64_w, i32_w]
       rfl
      refine one_ (i := 5) (N := some 24) #[true, true, true, true, true, true, false, false] rfl rfl (one_of HT_.out (by kernel_rfl)) (by decide) (fun K hK => ?_)
      refine goes_ Tryz.func34 (by kernel_rfl) rfl #[.int .i64 a0_1] (by rfl) rfl rfl (by (try simp only [List.map_toArray, List.map_cons, List.map_nil]); first | rfl) ?_
      with_reducible refine (strconv_Itoa.calls a0_1 t147 _ ?side1 A13.out).mono ?_
      (case side1 => exact GW.below hG (by repeat (first | (with_reducible first | exact HB.out))))
      rintro e w18 ⟨rfl, hb⟩
      refine ⟨_, rfl, ?_⟩
      have n0_ := Aside0.mk (Kd.R_below (by (with_reducible repeat (fail)); exact HO_3.out) hb)
      have n1_ := Aside0.mk (blk_below (g := gb141) (o := .cells #[.int .u32 a0_0, .int .i64 a0_1] 24 (0, 0)) (by (with_reducible repeat (fail)); exact BK141.out) hb)
      have n2_ := Aside0.mk (below_step (by repeat (first | (with_reducible first | exact HB.out))) hb)
      clear HO_3
      clear BK141
      clear HB
      have HO_3 := n0_
      have BK141 := n1_
      have HB := n2_
      clear n0_ n1_ n2_
      (try clear hb)
      (try clear hb2)
      (try clear hk)
      (try clear hi)
      refine hK.out _ _ ⟨(blk_cell BK141.out 0).trans rfl, (blk_cell BK141.out 1).trans rfl⟩ (fun hHeld => ?_)
      clear hK K
      refine norm_ (a' := ?_) ?_ ?_
      rotate_left
      ·show Act.put _ (some 24) _ = _
       simp only [Act.put, List.setIfInBounds_toArray, List.set_cons_zero, List.set_cons_succ, i64_w, i32_w]
       rfl
      refine pure_ (i := 6) (N := some 25) (v := ?_) (a' := ?_) #[true, true, true, true, true, true, true, false] rfl rfl (any_of HT_.out (by kernel_rfl)) (fun _ _ _ h => h) (Or.inl ⟨by rfl, ?_⟩) ?_ ?_
      rotate_left
      ·intro w'
       go_simp
       with_reducible rfl
      rotate_left
      ·simp only [Act.put, List.setIfInBounds_toArray, List.set_cons_zero, List.set_cons_succ, i64_w, i32_w]
       rfl
      refine pure_ (i := 7) (N := some 2) (v := ?_) (a' := ?_) #[true, true, true, true, true, true, true, true] rfl rfl (any_of HT_.out (by kernel_rfl)) (fun _ _ _ h => h) (Or.inl ⟨by rfl, ?_⟩) ?_ ?_
      rotate_left
      ·intro w'
       go_simp
       with_reducible rfl
      rotate_left
      ·simp only [Act.put, List.setIfInBounds_toArray, List.set_cons_zero, List.set_cons_succ, i64_w, i32_w]
       rfl
      refine done_ (done_of HT_.out (by kernel_rfl)) ?_
      try go_wp2
      go_ret
      exact ⟨by first | rfl, by repeat (first | (with_reducible first | exact HB.out))⟩
     ·rw [if_neg c14] at H
      exact absurd H (by simp)
    ·rw [if_neg c12] at H
     exact absurd H (by simp)
end Go.Proofs.YthngpkfckhmiiaaGreatDoor.X
end
section
namespace Go.Proofs.YthngpkfckhmiiaaGreatDoor.X
open Go.RowKit Go.Proofs.YthngpkfckhmiiaaGreatDoorW.PrintWords Go.Proofs.YthngpkfckhmiiaaGreatDoorW.PrintLast Go.Proofs.YthngpkfckhmiiaaGreatDoorW.PrintMore
attribute [local go_sem] max2_int min2_int max_two min_two max_three min_three max_four min_four   -- for this text's walks alone
set_option linter.unusedVariables false
set_option linter.unusedSimpArgs false
mutual
def plist_Text.j0 : Nat → List ByteArray → Int → Bool → Int → Int → Int → Int → Option (ByteArray)
  | 0, _, _, _, _, _, _, _ => none
  | k + 1, x3, x149000, x149001, x149002, x149003, x149004, x149005 => if x149004 = 0 then (plist_Text.j1 k x3 x149000 x149001 x149002 x149003 x149004 x149005) else ((strconv_Itoa.f x149004).bind fun t155 => ((some (([(⟨#[103, 101]⟩ : ByteArray), t155] : List ByteArray) : List ByteArray)).bind fun y156 => (if x3.length + y156.length < 8796093022208 then (plist_Text.j1 k (x3 ++ y156) x149000 x149001 x149002 x149003 x149004 x149005) else (none))))
def plist_Text.j1 : Nat → List ByteArray → Int → Bool → Int → Int → Int → Int → Option (ByteArray)
  | 0, _, _, _, _, _, _, _ => none
  | k + 1, x3, x149000, x149001, x149002, x149003, x149004, x149005 => if x149005 = 0 then ((strings_Join.f x3 (⟨#[32]⟩ : ByteArray)).bind fun t162 => (some t162)) else ((strconv_Itoa.f x149005).bind fun t163 => ((some (([(⟨#[108, 101]⟩ : ByteArray), t163] : List ByteArray) : List ByteArray)).bind fun y164 => (if x3.length + y164.length < 8796093022208 then ((strings_Join.f (x3 ++ y164) (⟨#[32]⟩ : ByteArray)).bind fun t170 => (some t170)) else (none))))
end
def plist_Text.f (k : Nat) (a0_0 : Int) (a0_1 : Bool) (a0_2 : Int) (a0_3 : Int) (a0_4 : Int) (a0_5 : Int) : Option (ByteArray) := (strconv_Itoa.f a0_0).bind fun t149 => ((addr_Text.f k a0_2 a0_3).bind fun t150 => ((some (([t149, (⟨#[100, 101, 110, 121]⟩ : ByteArray), t150] : List ByteArray) : List ByteArray)).bind fun y151 => (if a0_1 = true then (if 1 < (y151.length : Int) then (plist_Text.j0 k (y151.set (1 : Int).toNat (⟨#[112, 101, 114, 109, 105, 116]⟩ : ByteArray)) a0_0 a0_1 a0_2 a0_3 a0_4 a0_5) else (none)) else (plist_Text.j0 k y151 a0_0 a0_1 a0_2 a0_3 a0_4 a0_5))))
theorem plist_Text.mono_l : ∀ k, (∀ y0 y1 y2 y3 y4 y5 y6, LeO (plist_Text.j0 k y0 y1 y2 y3 y4 y5 y6) (plist_Text.j0 (k + 1) y0 y1 y2 y3 y4 y5 y6)) ∧ (∀ y0 y1 y2 y3 y4 y5 y6, LeO (plist_Text.j1 k y0 y1 y2 y3 y4 y5 y6) (plist_Text.j1 (k + 1) y0 y1 y2 y3 y4 y5 y6))
 | 0 => ⟨fun _ _ _ _ _ _ _ r h => by simp [plist_Text.j0] at h, fun _ _ _ _ _ _ _ r h => by simp [plist_Text.j1] at h⟩
 | k + 1 => by
  obtain ⟨ih0, ih1⟩ := plist_Text.mono_l k
  refine ⟨?_, ?_⟩
  ·intro y0 y1 y2 y3 y4 y5 y6
   unfold plist_Text.j0
   repeat' first
   | (with_reducible exact ih0 _ _ _ _ _ _ _)
   | (with_reducible exact ih1 _ _ _ _ _ _ _)
   | (with_reducible exact addr_Text.mono _ _ _)
   | (with_reducible exact LeO.refl _)
   | (with_reducible exact LeO.none _)
   | (with_reducible refine LeO.ite ?_ ?_)
   | (with_reducible refine LeO.bind ?_ (fun _ => ?_))
   | exact ih0 _ _ _ _ _ _ _
   | exact ih1 _ _ _ _ _ _ _
   | exact addr_Text.mono _ _ _
   | exact LeO.none _
   | refine LeO.ite ?_ ?_
   | refine LeO.bind ?_ (fun _ => ?_)
  ·intro y0 y1 y2 y3 y4 y5 y6
   unfold plist_Text.j1
   repeat' first
   | (with_reducible exact ih0 _ _ _ _ _ _ _)
   | (with_reducible exact ih1 _ _ _ _ _ _ _)
   | (with_reducible exact addr_Text.mono _ _ _)
   | (with_reducible exact LeO.refl _)
   | (with_reducible exact LeO.none _)
   | (with_reducible refine LeO.ite ?_ ?_)
   | (with_reducible refine LeO.bind ?_ (fun _ => ?_))
   | exact ih0 _ _ _ _ _ _ _
   | exact ih1 _ _ _ _ _ _ _
   | exact addr_Text.mono _ _ _
   | exact LeO.none _
   | refine LeO.ite ?_ ?_
   | refine LeO.bind ?_ (fun _ => ?_)
theorem plist_Text.mono : ∀ a0 a1 a2 a3 a4 a5 k, LeO (plist_Text.f k a0 a1 a2 a3 a4 a5) (plist_Text.f (k + 1) a0 a1 a2 a3 a4 a5) := by
 intro a0 a1 a2 a3 a4 a5 k
 obtain ⟨ih0, ih1⟩ := plist_Text.mono_l k
 unfold plist_Text.f
 repeat' first
   | (with_reducible exact ih0 _ _ _ _ _ _ _)
   | (with_reducible exact ih1 _ _ _ _ _ _ _)
   | (with_reducible exact addr_Text.mono _ _ _)
   | (with_reducible exact LeO.refl _)
   | (with_reducible exact LeO.none _)
   | (with_reducible refine LeO.ite ?_ ?_)
   | (with_reducible refine LeO.bind ?_ (fun _ => ?_))
   | exact ih0 _ _ _ _ _ _ _
   | exact ih1 _ _ _ _ _ _ _
   | exact addr_Text.mono _ _ _
   | exact LeO.none _
   | refine LeO.ite ?_ ?_
   | refine LeO.bind ?_ (fun _ => ?_)
def plist_Text.T1 : Bool × List (List Nat × List Nat) := (true, [([], []), ([0], [0]), ([1], [1]), ([], []), ([3], [3]), ([4, 2], [4]), ([2, 5], [2, 5]), ([6, 5, 0, 1, 2, 3, 4, 5, 6], [6])])
def plist_Text.B1 : List Nat := [0, 1, 3, 0, 8, 31, 63, 127]
theorem plist_Text.tab1 : rtab .any (opsOf Tryz.f9 1) = plist_Text.T1 := by kernel_rfl
theorem plist_Text.bits1 : waitsOk plist_Text.T1.2 plist_Text.B1 = true := by kernel_rfl
set_option maxHeartbeats 8000000 in
set_option maxRecDepth 100000 in
theorem plist_Text.calls (k : Nat) (a0_0 : Int) (a0_1 : Bool) (a0_2 : Int) (a0_3 : Int) (a0_4 : Int) (a0_5 : Int) (r : ByteArray) (w : World) (hG : GW w) (h : plist_Text.f k a0_0 a0_1 a0_2 a0_3 a0_4 a0_5 = some r) :
  Calls Tryz.prog 9 #[.agg #[.int .i64 a0_0, .bool a0_1, .int .u32 a0_2, .int .i64 a0_3, .int .i64 a0_4, .int .i64 a0_5]] w fun e w' => e = .returned (.string r) ∧ Below w.heap.size w w' := by
 have hu26 := Tryz.underlying26
 have hu24 := Tryz.underlying24
 have HB := Aside0.mk (Below.refl w.heap.size w)
 have H : ((strconv_Itoa.f a0_0).bind fun t149 => ((addr_Text.f k a0_2 a0_3).bind fun t150 => ((some (([t149, (⟨#[100, 101, 110, 121]⟩ : ByteArray), t150] : List ByteArray) : List ByteArray)).bind fun y151 => (if a0_1 = true then (if 1 < (y151.length : Int) then (plist_Text.j0 k (y151.set (1 : Int).toNat (⟨#[112, 101, 114, 109, 105, 116]⟩ : ByteArray)) a0_0 a0_1 a0_2 a0_3 a0_4 a0_5) else (none)) else (plist_Text.j0 k y151 a0_0 a0_1 a0_2 a0_3 a0_4 a0_5))))) = some r := h
 clear h
 replace H := Option.bind_eq_some_iff.mp H
 obtain ⟨t149, A20, H⟩ := H
 replace H : ((addr_Text.f k a0_2 a0_3).bind fun t150 => ((some (([t149, (⟨#[100, 101, 110, 121]⟩ : ByteArray), t150] : List ByteArray) : List ByteArray)).bind fun y151 => (if a0_1 = true then (if 1 < (y151.length : Int) then (plist_Text.j0 k (y151.set (1 : Int).toNat (⟨#[112, 101, 114, 109, 105, 116]⟩ : ByteArray)) a0_0 a0_1 a0_2 a0_3 a0_4 a0_5) else (none)) else (plist_Text.j0 k y151 a0_0 a0_1 a0_2 a0_3 a0_4 a0_5)))) = some r := H
 have A2 := Aside0.mk A20
 clear A20
 replace H := Option.bind_eq_some_iff.mp H
 obtain ⟨t150, A30, H⟩ := H
 replace H : ((some (([t149, (⟨#[100, 101, 110, 121]⟩ : ByteArray), t150] : List ByteArray) : List ByteArray)).bind fun y151 => (if a0_1 = true then (if 1 < (y151.length : Int) then (plist_Text.j0 k (y151.set (1 : Int).toNat (⟨#[112, 101, 114, 109, 105, 116]⟩ : ByteArray)) a0_0 a0_1 a0_2 a0_3 a0_4 a0_5) else (none)) else (plist_Text.j0 k y151 a0_0 a0_1 a0_2 a0_3 a0_4 a0_5))) = some r := H
 have A3 := Aside0.mk A30
 clear A30
 obtain ⟨y151, hy151⟩ : ∃ y_ : List ByteArray, y_ = (([t149, (⟨#[100, 101, 110, 121]⟩ : ByteArray), t150] : List ByteArray)) := ⟨_, rfl⟩
 replace H : (if a0_1 = true then (if 1 < (y151.length : Int) then (plist_Text.j0 k (y151.set (1 : Int).toNat (⟨#[112, 101, 114, 109, 105, 116]⟩ : ByteArray)) a0_0 a0_1 a0_2 a0_3 a0_4 a0_5) else (none)) else (plist_Text.j0 k y151 a0_0 a0_1 a0_2 a0_3 a0_4 a0_5)) = some r := by first | (have H2_ := (Option.bind_some _ _).symm.trans H; rw [hy151]; with_reducible exact H2_)
 have Ny151 := Aside0.mk hy151
 clear hy151
 have HC4 := Aside0.mk H
 clear H
 go_enter Tryz.func9, Tryz.ntmps9
 try go_wp2_with (first | ((with_reducible refine gate_dst (N := 1) rfl ?_); refine box_event ?hg (N := 1) ?hd (cs := #[.int .i64 a0_0, .bool a0_1, .int .u32 a0_2, .int .i64 a0_3, .int .i64 a0_4, .int .i64 a0_5]) (t := 26) ?hr ?_; (case hd => rfl); (case hg => rfl); (case hr => first | (go_simp; done)); intro gb148 hg w5 hbox hb; have n0_ := Aside0.mk (below_step (by repeat (first | (with_reducible first | exact HB.out))) hb); have n1_ := Aside0.mk (hbox); have n2_ := Aside0.mk ((by rw [hg]; exact (below_size (by repeat (first | (with_reducible first | exact HB.out)))) : w.heap.size ≤ gb148)); have n3_ := Aside0.mk ((by rw [hg]; exact (below_size (by repeat (first | (with_reducible first | exact HB.out)))) : w.heap.size ≤ gb148)); clear HB; have HB := n0_; have BK148 := n1_; have GW148 := n2_; have GE148 := n3_; clear n0_ n1_ n2_ n3_; clear hb hbox hg))
 have n0_ := Aside0.mk (blk_drew BK148.out)
 have n1_ := Aside0.mk (below_drew1 HB.out)
 clear BK148
 clear HB
 have BK148 := n0_
 have HB := n1_
 clear n0_ n1_
 refine start_ (n := 8) (S := fun w' => w'.cell? ⟨gb148, 0, none⟩ = some (.int .i64 a0_0) ∧ w'.cell? ⟨gb148, 1, none⟩ = some (.bool a0_1) ∧ w'.cell? ⟨gb148, 2, none⟩ = some (.int .u32 a0_2) ∧ w'.cell? ⟨gb148, 3, none⟩ = some (.int .i64 a0_3) ∧ w'.cell? ⟨gb148, 4, none⟩ = some (.int .i64 a0_4) ∧ w'.cell? ⟨gb148, 5, none⟩ = some (.int .i64 a0_5)) (ds := []) #[false, false, false, false, false, false, false, false] (by kernel_rfl) rfl rfl ⟨(blk_cell BK148.out 0).trans rfl, (blk_cell BK148.out 1).trans rfl, (blk_cell BK148.out 2).trans rfl, (blk_cell BK148.out 3).trans rfl, (blk_cell BK148.out 4).trans rfl, (blk_cell BK148.out 5).trans rfl⟩ (fun hHeld => ?_); refine with_tabW plist_Text.tab1 plist_Text.bits1 (fun HT_ HW_ => ?_)
 generalize w5.drew = w6 at BK148 HB hHeld ⊢
 refine pure_ (i := 0) (N := some 4) (v := ?_) (a' := ?_) #[true, false, false, false, false, false, false, false] rfl rfl (any_of HT_.out (by kernel_rfl)) (fun _ _ _ h => h) (Or.inl ⟨by rfl, ?_⟩) ?_ ?_
 rotate_left
 ·intro w'
  go_simp
  with_reducible rfl
 rotate_left
 ·simp only [Act.put, List.setIfInBounds_toArray, List.set_cons_zero, List.set_cons_succ, i64_w, i32_w]
  rfl
 refine pure_ (i := 3) (N := some 7) (v := ?_) (a' := ?_) #[true, false, false, true, false, false, false, false] rfl rfl (any_of HT_.out (by kernel_rfl)) (fun _ _ _ h => h) (Or.inl ⟨by rfl, ?_⟩) ?_ ?_
 rotate_left
 ·intro w'
  go_simp
  with_reducible rfl
 rotate_left
 ·simp only [Act.put, List.setIfInBounds_toArray, List.set_cons_zero, List.set_cons_succ, i64_w, i32_w]
  rfl
 refine take_ (i := 1) (N := some 5) (v := ?_) (a' := ?_) #[true, true, false, true, false, false, false, false] rfl rfl (take_ofW HT_.out HW_.out (by kernel_rfl)) (fun _ _ _ h => h) (Or.inl ⟨by rfl, ?_⟩) hHeld ?_ ?_
 rotate_left
 ·rintro w' ⟨s0, s1, s2, s3, s4, s5⟩
  go_simp
  with_reducible rfl
 rotate_left
 ·simp only [Act.put, List.setIfInBounds_toArray, List.set_cons_zero, List.set_cons_succ, i64_w, i32_w]
  rfl
 refine take_ (i := 4) (N := some 8) (v := ?_) (a' := ?_) #[true, true, false, true, true, false, false, false] rfl rfl (take_ofW HT_.out HW_.out (by kernel_rfl)) (fun _ _ _ h => h) (Or.inl ⟨by rfl, ?_⟩) hHeld ?_ ?_
 rotate_left
 ·rintro w' ⟨s0, s1, s2, s3, s4, s5⟩
  go_simp
  with_reducible rfl
 rotate_left
 ·simp only [Act.put, List.setIfInBounds_toArray, List.set_cons_zero, List.set_cons_succ, i64_w, i32_w]
  rfl
 refine one_ (i := 2) (N := some 6) #[true, true, true, true, true, false, false, false] rfl rfl (one_of HT_.out (by kernel_rfl)) (by decide) (fun K hK => ?_)
 refine goes_ Tryz.func34 (by kernel_rfl) rfl #[.int .i64 a0_0] (by rfl) rfl rfl (by (try simp only [List.map_toArray, List.map_cons, List.map_nil]); first | rfl) ?_
 with_reducible refine (strconv_Itoa.calls a0_0 t149 _ ?side1 A2.out).mono ?_
 (case side1 => exact GW.below hG (by repeat (first | (with_reducible first | exact HB.out))))
 rintro e w7 ⟨rfl, hb⟩
 refine ⟨_, rfl, ?_⟩
 have n0_ := Aside0.mk (blk_below (g := gb148) (o := .cells #[.int .i64 a0_0, .bool a0_1, .int .u32 a0_2, .int .i64 a0_3, .int .i64 a0_4, .int .i64 a0_5] 26 (0, 0)) (by (with_reducible repeat (fail)); exact BK148.out) hb)
 have n1_ := Aside0.mk (below_step (by repeat (first | (with_reducible first | exact HB.out))) hb)
 clear BK148
 clear HB
 have BK148 := n0_
 have HB := n1_
 clear n0_ n1_
 (try clear hb)
 (try clear hb2)
 (try clear hk)
 (try clear hi)
 refine hK.out _ _ ⟨(blk_cell BK148.out 0).trans rfl, (blk_cell BK148.out 1).trans rfl, (blk_cell BK148.out 2).trans rfl, (blk_cell BK148.out 3).trans rfl, (blk_cell BK148.out 4).trans rfl, (blk_cell BK148.out 5).trans rfl⟩ (fun hHeld => ?_)
 clear hK K
 refine norm_ (a' := ?_) ?_ ?_
 rotate_left
 ·show Act.put _ (some 6) _ = _
  simp only [Act.put, List.setIfInBounds_toArray, List.set_cons_zero, List.set_cons_succ, i64_w, i32_w]
  rfl
 refine one_ (i := 5) (N := some 9) #[true, true, true, true, true, true, false, false] rfl rfl (one_of HT_.out (by kernel_rfl)) (by decide) (fun K hK => ?_)
 refine goes_ Tryz.func35 (by kernel_rfl) rfl #[.agg #[.int .u32 a0_2, .int .i64 a0_3]] (by rfl) rfl rfl (by (try simp only [List.map_toArray, List.map_cons, List.map_nil]); first | rfl) ?_
 with_reducible refine (addr_Text.calls k a0_2 a0_3 t150 _ ?side1 A3.out).mono ?_
 (case side1 => exact GW.below hG (by repeat (first | (with_reducible first | exact HB.out))))
 rintro e w8 ⟨rfl, hb⟩
 refine ⟨_, rfl, ?_⟩
 have n0_ := Aside0.mk (blk_below (g := gb148) (o := .cells #[.int .i64 a0_0, .bool a0_1, .int .u32 a0_2, .int .i64 a0_3, .int .i64 a0_4, .int .i64 a0_5] 26 (0, 0)) (by (with_reducible repeat (fail)); exact BK148.out) hb)
 have n1_ := Aside0.mk (below_step (by repeat (first | (with_reducible first | exact HB.out))) hb)
 clear BK148
 clear HB
 have BK148 := n0_
 have HB := n1_
 clear n0_ n1_
 (try clear hb)
 (try clear hb2)
 (try clear hk)
 (try clear hi)
 refine hK.out _ _ ⟨(blk_cell BK148.out 0).trans rfl, (blk_cell BK148.out 1).trans rfl, (blk_cell BK148.out 2).trans rfl, (blk_cell BK148.out 3).trans rfl, (blk_cell BK148.out 4).trans rfl, (blk_cell BK148.out 5).trans rfl⟩ (fun hHeld => ?_)
 clear hK K
 refine norm_ (a' := ?_) ?_ ?_
 rotate_left
 ·show Act.put _ (some 9) _ = _
  simp only [Act.put, List.setIfInBounds_toArray, List.set_cons_zero, List.set_cons_succ, i64_w, i32_w]
  rfl
 refine one_ (i := 6) (N := some 10) #[true, true, true, true, true, true, true, false] rfl rfl (one_of HT_.out (by kernel_rfl)) (by decide) (fun K hK => ?_)
 refine Kd.R_lit_step Kd.string _ 9 ?hg (N := 10) ?hd (xs := ([t149, (⟨#[100, 101, 110, 121]⟩ : ByteArray), t150] : List ByteArray)) (inner := [.string t149, .string (⟨#[100, 101, 110, 121]⟩ : ByteArray), .string t150]) (ok := fun _ => True) (okp := fun _ => True) ?hr ?hp (fun _ hk => hk) trivial (Below.refl _ _) (Nat.le_refl _) (by simp) ?_; (case hd => rfl); (case hg => rfl); (case hr => first | (go_simp; done)); (case hp => exact (Reps.one (show Kd.M Kd.string _ _ _ t149 [.string t149] from rfl) (Reps.one (show Kd.M Kd.string _ _ _ (⟨#[100, 101, 110, 121]⟩ : ByteArray) [.string (⟨#[100, 101, 110, 121]⟩ : ByteArray)] from rfl) (Reps.one (show Kd.M Kd.string _ _ _ t150 [.string t150] from rfl) (Reps.none _ _)))))
 intro v152 w9 ho10 hb hg_ hnew_
 clear hg_ hnew_
 (first | rw [← Ny151.out] at ho10)
 have n0_ := Aside0.mk (Kd.R_lower ho10 (below_size (by repeat (first | (with_reducible first | exact HB.out)))))
 have n1_ := Aside0.mk (blk_below (g := gb148) (o := .cells #[.int .i64 a0_0, .bool a0_1, .int .u32 a0_2, .int .i64 a0_3, .int .i64 a0_4, .int .i64 a0_5] 26 (0, 0)) (by (with_reducible repeat (fail)); exact BK148.out) hb)
 have n2_ := Aside0.mk (below_step (by repeat (first | (with_reducible first | exact HB.out))) hb)
 clear BK148
 clear HB
 have HO153 := n0_
 have BK148 := n1_
 have HB := n2_
 clear n0_ n1_ n2_
 clear hb ho10
 refine hK.out _ _ ⟨(blk_cell BK148.out 0).trans rfl, (blk_cell BK148.out 1).trans rfl, (blk_cell BK148.out 2).trans rfl, (blk_cell BK148.out 3).trans rfl, (blk_cell BK148.out 4).trans rfl, (blk_cell BK148.out 5).trans rfl⟩ (fun hHeld => ?_)
 clear hK K
 refine norm_ (a' := ?_) ?_ ?_
 rotate_left
 ·show Act.put _ (some 10) _ = _
  simp only [Act.put, List.setIfInBounds_toArray, List.set_cons_zero, List.set_cons_succ, i64_w, i32_w]
  rfl
 refine pure_ (i := 7) (N := some 3) (v := ?_) (a' := ?_) #[true, true, true, true, true, true, true, true] rfl rfl (any_of HT_.out (by kernel_rfl)) (fun _ _ _ h => h) (Or.inl ⟨by rfl, ?_⟩) ?_ ?_
 rotate_left
 ·intro w'
  go_simp
  with_reducible rfl
 rotate_left
 ·simp only [Act.put, List.setIfInBounds_toArray, List.set_cons_zero, List.set_cons_succ, i64_w, i32_w]
  rfl
 refine done_ (done_of HT_.out (by kernel_rfl)) ?_
 have hcz11_0 : w9.cell? ⟨gb148, 0, none⟩ = some (.int .i64 a0_0) := (blk_cell BK148.out 0).trans rfl
 have hcz11_1 : w9.cell? ⟨gb148, 1, none⟩ = some (.bool a0_1) := (blk_cell BK148.out 1).trans rfl
 have hcz11_2 : w9.cell? ⟨gb148, 2, none⟩ = some (.int .u32 a0_2) := (blk_cell BK148.out 2).trans rfl
 have hcz11_3 : w9.cell? ⟨gb148, 3, none⟩ = some (.int .i64 a0_3) := (blk_cell BK148.out 3).trans rfl
 have hcz11_4 : w9.cell? ⟨gb148, 4, none⟩ = some (.int .i64 a0_4) := (blk_cell BK148.out 4).trans rfl
 have hcz11_5 : w9.cell? ⟨gb148, 5, none⟩ = some (.int .i64 a0_5) := (blk_cell BK148.out 5).trans rfl
 have hfz11_0 := blk_frozen BK148.out 0
 have hfz11_1 := blk_frozen BK148.out 1
 have hfz11_2 := blk_frozen BK148.out 2
 have hfz11_3 := blk_frozen BK148.out 3
 have hfz11_4 := blk_frozen BK148.out 4
 have hfz11_5 := blk_frozen BK148.out 5
 go_upto_if 12 with (fail)
 go_cut [] (fun wc => ∃ (kq : Nat) (x3_3 : List ByteArray), Aside0 (plist_Text.j0 kq x3_3 a0_0 a0_1 a0_2 a0_3 a0_4 a0_5 = some r) ∧ Aside0 (kq ≤ k) ∧ Aside0 (Kd.R Kd.string 9 wc w.heap.size (fun _ => True) v152 x3_3) ∧ Aside0 (wc.heap[gb148]? = some (.cells #[.int .i64 a0_0, .bool a0_1, .int .u32 a0_2, .int .i64 a0_3, .int .i64 a0_4, .int .i64 a0_5] 26 (0, 0))) ∧ Aside0 (Below w.heap.size w wc))
 case first =>
  have H := HC4.out
  clear HC4
  by_cases c12 : a0_1 = true
  ·subst c12
   have H1 : (if 1 < (y151.length : Int) then (plist_Text.j0 k (y151.set (1 : Int).toNat (⟨#[112, 101, 114, 109, 105, 116]⟩ : ByteArray)) a0_0 true a0_2 a0_3 a0_4 a0_5) else (none)) = some r := by rw [if_pos rfl] at H; exact H
   clear H
   have H := H1
   clear H1
   by_cases c13 : 1 < (y151.length : Int)
   ·rw [if_pos c13] at H
    have c13b0 : decide (1 < (y151.length : Int)) = true := decide_eq_true c13
    have c13b1 : decide (1 < y151.length) = true := decide_eq_true (by omega)
    clear c13
    (first | skip)
    obtain ⟨y154, hy154⟩ : ∃ y_ : List ByteArray, y_ = (y151.set (1 : Int).toNat (⟨#[112, 101, 114, 109, 105, 116]⟩ : ByteArray)) := ⟨_, rfl⟩
    replace H : (plist_Text.j0 k y154 a0_0 true a0_2 a0_3 a0_4 a0_5) = some r := by first | (rw [hy154]; with_reducible exact H)
    have Ny154 := Aside0.mk hy154
    clear hy154
    have H' := Aside0.mk H
    clear H
    have p14 : 0 ≤ (1 : Int) := (by omega)
    have q14 : (1 : Int) < ((y151.length : Int) : Int) := of_decide_eq_true (by first | (with_reducible assumption))
    have qi14 : (1 < y151.length) = True := eq_true (by omega)
    obtain ⟨go14, co14, eo14, gb14, gl14, cl14, HG14⟩ := Kd.R_form HO153.out (by omega)
    (first | cases eo14)
    have GB14 := Aside0.mk gb14
    have GG14 := Aside0.mk HG14
    clear gb14 gl14 HG14
    obtain ⟨hx14_0, hf14_0⟩ := Kd.R_celln (⟨#[]⟩ : ByteArray) HO153.out (1 : Int) p14 q14
    (try rw [show ((1 : Int)).toNat = 1 from rfl] at hx14_0)
    (try simp only [Nat.reduceMul, Nat.zero_mul, Nat.zero_add, Nat.reduceAdd] at hx14_0)
    (try rw [show ((1 : Int)).toNat = 1 from rfl] at hf14_0)
    (try simp only [Nat.reduceMul, Nat.zero_mul, Nat.zero_add, Nat.reduceAdd] at hf14_0)
    replace p14 := eq_true p14
    replace q14 := eq_true q14
    have HP15 := Kd.R_putg HO153.out (1 : Int) (⟨#[112, 101, 114, 109, 105, 116]⟩ : ByteArray)
    go_wp2_with (first | ((with_reducible refine gate_store (t := 9) (p := 14) rfl ?_); refine store_event (t := 9) (p := 14) (v := ?vo_w16) (w1 := (w9.setCell ⟨go14, (1 : Int).toNat, none⟩ (.string (⟨#[112, 101, 114, 109, 105, 116]⟩ : ByteArray)))) ?hg ?ho ?hn ?hr ?_; (case ho => rfl); (case hg => rfl); (case hn => rfl); (case hr => first | (go_simp; done)); intro w16 hw; have hg : w9.grownBy w16 (some go14) := (by rw [hw]; exact HP15.2); have hp_ : Kd.R Kd.string 9 w16 w.heap.size (fun _ => True) (.slice (some ⟨go14, 0, none⟩) y151.length co14) y154 := (by rw [hw, Ny154.out]; exact HP15.1); clear HP15; have n0_ := Aside0.mk (blk_grown (g := gb148) (o := .cells #[.int .i64 a0_0, .bool true, .int .u32 a0_2, .int .i64 a0_3, .int .i64 a0_4, .int .i64 a0_5] 26 (0, 0)) (by (with_reducible repeat (fail)); exact BK148.out) hg (Kd.R_ne HO153.out BK148.out (by decide))); have n1_ := Aside0.mk (hp_); have n2_ := Aside0.mk ((by rw [hw]; exact below_set (HB.out) GB14.out : Below w.heap.size w w16)); clear BK148; clear HO153; clear HB; have BK148 := n0_; have HO153 := n1_; have HB := n2_; clear n0_ n1_ n2_; clear hg hw hp_))
    go_meet
    case rel => exact ⟨_, (y154), H', ⟨by first | omega⟩, ⟨by (with_reducible repeat (fail)); exact HO153.out⟩, ⟨by (with_reducible repeat (fail)); exact BK148.out⟩, ⟨by repeat (first | (with_reducible first | exact HB.out))⟩⟩
   ·rw [if_neg c13] at H
    exact absurd H (by simp)
  ·replace c12 := Bool.eq_false_iff.mpr c12
   subst c12
   have H1 : (plist_Text.j0 k y151 a0_0 false a0_2 a0_3 a0_4 a0_5) = some r := by rw [if_neg (show ¬ (false = true) by decide)] at H; exact H
   clear H
   have H := H1
   clear H1
   have H' := Aside0.mk H
   clear H
   go_wp2
   go_meet
   case rel => exact ⟨_, (y151), H', ⟨by first | omega⟩, ⟨by (with_reducible repeat (fail)); exact HO153.out⟩, ⟨by (with_reducible repeat (fail)); exact BK148.out⟩, ⟨by repeat (first | (with_reducible first | exact HB.out))⟩⟩
 case rest =>
  clear HC4
  try clear c1
  try clear p1
  try clear q1
  try clear hx1
  try clear qi1
  try clear hf1
  try clear p2
  try clear c3
  try clear c9
  try clear c12
  try clear c13
  try clear c13b0
  try clear c13b1
  try clear p14
  try clear q14
  try clear hx14
  try clear qi14
  try clear hf14
  try clear hcz11_0
  try clear hcz11_1
  try clear hcz11_2
  try clear hcz11_3
  try clear hcz11_4
  try clear hcz11_5
  try clear hfz11_0
  try clear hfz11_1
  try clear hfz11_2
  try clear hfz11_3
  try clear hfz11_4
  try clear hfz11_5
  try clear hx14_0
  try clear p14
  try clear q14
  obtain ⟨kq, x3_3, HA, HJ3, HO_3, BK148, HB⟩ := hcut
  cases kq with
  | zero => exact absurd HA.out (by simp [plist_Text.j0])
  | succ kj3 =>
   have H := HA.out
   clear HA
   simp only [plist_Text.j0] at H
   have HC17 := Aside0.mk H
   clear H
   have hcz18_0 : wc.cell? ⟨gb148, 0, none⟩ = some (.int .i64 a0_0) := (blk_cell BK148.out 0).trans rfl
   have hcz18_1 : wc.cell? ⟨gb148, 1, none⟩ = some (.bool a0_1) := (blk_cell BK148.out 1).trans rfl
   have hcz18_2 : wc.cell? ⟨gb148, 2, none⟩ = some (.int .u32 a0_2) := (blk_cell BK148.out 2).trans rfl
   have hcz18_3 : wc.cell? ⟨gb148, 3, none⟩ = some (.int .i64 a0_3) := (blk_cell BK148.out 3).trans rfl
   have hcz18_4 : wc.cell? ⟨gb148, 4, none⟩ = some (.int .i64 a0_4) := (blk_cell BK148.out 4).trans rfl
   have hcz18_5 : wc.cell? ⟨gb148, 5, none⟩ = some (.int .i64 a0_5) := (blk_cell BK148.out 5).trans rfl
   have hfz18_0 := blk_frozen BK148.out 0
   have hfz18_1 := blk_frozen BK148.out 1
   have hfz18_2 := blk_frozen BK148.out 2
   have hfz18_3 := blk_frozen BK148.out 3
   have hfz18_4 := blk_frozen BK148.out 4
   have hfz18_5 := blk_frozen BK148.out 5
   go_upto_if 17 with (fail)
   go_cut [3] (fun v3 wc => ∃ (kq : Nat) (x3_16 : List ByteArray), Aside0 (plist_Text.j1 kq x3_16 a0_0 a0_1 a0_2 a0_3 a0_4 a0_5 = some r) ∧ Aside0 (kq ≤ kj3) ∧ Aside0 (Kd.R Kd.string 9 wc w.heap.size (fun _ => True) v3 x3_16) ∧ Aside0 (wc.heap[gb148]? = some (.cells #[.int .i64 a0_0, .bool a0_1, .int .u32 a0_2, .int .i64 a0_3, .int .i64 a0_4, .int .i64 a0_5] 26 (0, 0))) ∧ Aside0 (Below w.heap.size w wc))
   case first =>
    have H := HC17.out
    clear HC17
    by_cases c19 : a0_4 = 0
    ·rw [if_pos c19] at H
     have c19b0 : (a0_4 == 0) = true := beq_iff_eq.mpr c19
     have c19b1 : (a0_4 != 0) = false := bne_eq_false_iff_eq.mpr c19
     clear c19
     (first | skip)
     have H' := Aside0.mk H
     clear H
     go_wp2
     go_meet
     case rel => exact ⟨_, (x3_3), H', ⟨by have := HJ3.out; first | omega⟩, ⟨by (with_reducible repeat (fail)); exact HO_3.out⟩, ⟨by (with_reducible repeat (fail)); exact BK148.out⟩, ⟨by repeat (first | (with_reducible first | exact HB.out))⟩⟩
    ·rw [if_neg c19] at H
     have c19b0 : (a0_4 == 0) = false := beq_eq_false_iff_ne.mpr c19
     have c19b1 : (a0_4 != 0) = true := bne_iff_ne.mpr c19
     (first | skip)
     replace H := Option.bind_eq_some_iff.mp H
     obtain ⟨t155, A200, H⟩ := H
     replace H : ((some (([(⟨#[103, 101]⟩ : ByteArray), t155] : List ByteArray) : List ByteArray)).bind fun y156 => (if x3_3.length + y156.length < 8796093022208 then (plist_Text.j1 kj3 (x3_3 ++ y156) a0_0 a0_1 a0_2 a0_3 a0_4 a0_5) else (none))) = some r := H
     have A20 := Aside0.mk A200
     clear A200
     obtain ⟨y156, hy156⟩ : ∃ y_ : List ByteArray, y_ = (([(⟨#[103, 101]⟩ : ByteArray), t155] : List ByteArray)) := ⟨_, rfl⟩
     replace H : (if x3_3.length + y156.length < 8796093022208 then (plist_Text.j1 kj3 (x3_3 ++ y156) a0_0 a0_1 a0_2 a0_3 a0_4 a0_5) else (none)) = some r := by first | (have H2_ := (Option.bind_some _ _).symm.trans H; rw [hy156]; with_reducible exact H2_)
     have Ny156 := Aside0.mk hy156
     clear hy156
     by_cases c21 : x3_3.length + y156.length < 8796093022208
     ·rw [if_pos c21] at H
      have LMc21 := Aside0.mk c21
      clear c21
      obtain ⟨y159, hy159⟩ : ∃ y_ : List ByteArray, y_ = (x3_3 ++ y156) := ⟨_, rfl⟩
      replace H : (plist_Text.j1 kj3 y159 a0_0 a0_1 a0_2 a0_3 a0_4 a0_5) = some r := by first | (rw [hy159]; with_reducible exact H)
      have Ny159 := Aside0.mk hy159
      clear hy159
      have H' := Aside0.mk H
      clear H
      have hcz22_0 : wc.cell? ⟨gb148, 0, none⟩ = some (.int .i64 a0_0) := (blk_cell BK148.out 0).trans rfl
      have hcz22_1 : wc.cell? ⟨gb148, 1, none⟩ = some (.bool a0_1) := (blk_cell BK148.out 1).trans rfl
      have hcz22_2 : wc.cell? ⟨gb148, 2, none⟩ = some (.int .u32 a0_2) := (blk_cell BK148.out 2).trans rfl
      have hcz22_3 : wc.cell? ⟨gb148, 3, none⟩ = some (.int .i64 a0_3) := (blk_cell BK148.out 3).trans rfl
      have hcz22_4 : wc.cell? ⟨gb148, 4, none⟩ = some (.int .i64 a0_4) := (blk_cell BK148.out 4).trans rfl
      have hcz22_5 : wc.cell? ⟨gb148, 5, none⟩ = some (.int .i64 a0_5) := (blk_cell BK148.out 5).trans rfl
      have hfz22_0 := blk_frozen BK148.out 0
      have hfz22_1 := blk_frozen BK148.out 1
      have hfz22_2 := blk_frozen BK148.out 2
      have hfz22_3 := blk_frozen BK148.out 3
      have hfz22_4 := blk_frozen BK148.out 4
      have hfz22_5 := blk_frozen BK148.out 5
      go_wp2_with (first | ((with_reducible refine gate_callee (f := 34) rfl ?_); refine goesL_ (some 21) rfl rfl Tryz.func34 (by kernel_rfl) rfl #[.int .i64 a0_4] rfl (by (try simp only [List.map_toArray, List.map_cons, List.map_nil]); first | rfl) ?_; (with_reducible refine (strconv_Itoa.calls a0_4 t155 _ ?side1 A20.out).mono ?_); (case side1 => exact GW.below hG (by repeat (first | (with_reducible first | exact HB.out)))); rintro e w23 ⟨rfl, hb⟩; refine ⟨_, rfl, ?_⟩; have n0_ := Aside0.mk (Kd.R_below (by (with_reducible repeat (fail)); exact HO_3.out) hb); have n1_ := Aside0.mk (blk_below (g := gb148) (o := .cells #[.int .i64 a0_0, .bool a0_1, .int .u32 a0_2, .int .i64 a0_3, .int .i64 a0_4, .int .i64 a0_5] 26 (0, 0)) (by (with_reducible repeat (fail)); exact BK148.out) hb); have n2_ := Aside0.mk (below_step (by repeat (first | (with_reducible first | exact HB.out))) hb); clear HO_3; clear BK148; clear HB; have HO_3 := n0_; have BK148 := n1_; have HB := n2_; clear n0_ n1_ n2_; (try clear hb); (try clear hb2); (try clear hk); (try clear hi)) | ((with_reducible refine gate_dst (N := 22) rfl ?_); refine Kd.R_lit Kd.string _ 9 ?hg (N := 22) ?hd (xs := ([(⟨#[103, 101]⟩ : ByteArray), t155] : List ByteArray)) (inner := [.string (⟨#[103, 101]⟩ : ByteArray), .string t155]) (ok := fun _ => True) (okp := fun _ => True) ?hr ?hp (fun _ hk => hk) trivial (Below.refl _ _) (Nat.le_refl _) (by simp) ?_; (case hd => rfl); (case hg => rfl); (case hr => first | (go_simp; done)); (case hp => exact (Reps.one (show Kd.M Kd.string _ _ _ (⟨#[103, 101]⟩ : ByteArray) [.string (⟨#[103, 101]⟩ : ByteArray)] from rfl) (Reps.one (show Kd.M Kd.string _ _ _ t155 [.string t155] from rfl) (Reps.none _ _)))); intro v157 w24 ho25 hb hg_ hnew_; clear hg_ hnew_; (first | rw [← Ny156.out] at ho25); have n0_ := Aside0.mk (Kd.R_elder' (by (with_reducible repeat (fail)); exact HO_3.out) (Kd.R_base ho25) hb); have n1_ := Aside0.mk (Kd.R_lower (Kd.R_new' ho25 (Kd.R_lt (by (with_reducible repeat (fail)); exact HO_3.out))) (below_size (by repeat (first | (with_reducible first | exact HB.out))))); have n2_ := Aside0.mk (blk_below (g := gb148) (o := .cells #[.int .i64 a0_0, .bool a0_1, .int .u32 a0_2, .int .i64 a0_3, .int .i64 a0_4, .int .i64 a0_5] 26 (0, 0)) (by (with_reducible repeat (fail)); exact BK148.out) hb); have n3_ := Aside0.mk (below_step (by repeat (first | (with_reducible first | exact HB.out))) hb); clear HO_3; clear BK148; clear HB; have HO_3 := n0_; have HO158 := n1_; have BK148 := n2_; have HB := n3_; clear n0_ n1_ n2_ n3_; clear hb ho25; obtain ⟨Ao27, co27, eo27⟩ := Kd.R_slice HO158.out; subst eo27) | ((with_reducible refine gate_builtin (b := .append) (xs := #[.tmp 18, .tmp 22]) rfl ?_); at_builtin; refine Kd.R_append_rows Kd.string (w0 := w) w.heap.size rfl (.tmp 18) (.tmp 22) 62 9 (.string ⟨#[]⟩) 16 rfl Tryz.underlying62 info9 rfl (by decide) (by omega) v152 x3_3 y156 _ _ _ (fun k_ => some k_ ≠ (.slice Ao27 y156.length co27 : Value).ownBlock) (fun _ => False) rfl rfl ?aO ?aR (fun _ _ h => h) (fun _ h => h.elim) ?aF ?aB ?aS ?aL ?_; (case aR => repeat (first | exact (Kd.R_reads' HO158.out).2.2)); (case aB => exact (by repeat (first | (with_reducible first | exact HB.out)))); (case aF => exact (fun k_ hk => Kd.fresh' (Kd.R_lt (by (with_reducible repeat (fail)); exact HO158.out)) k_ hk)); (case aO => exact (by (with_reducible repeat (fail)); exact Kd.R_mono HO_3.out (fun _ hk => hk.2))); (case aS => exact (below_size (by repeat (first | (with_reducible first | exact HB.out))))); (case aL => have := LMc21.out; omega); intro v160 w26 ho hb hg hat; rw [← Ny159.out] at ho; have n0_ := Aside0.mk (blk_grown (g := gb148) (o := .cells #[.int .i64 a0_0, .bool a0_1, .int .u32 a0_2, .int .i64 a0_3, .int .i64 a0_4, .int .i64 a0_5] 26 (0, 0)) (by (with_reducible repeat (fail)); exact BK148.out) hg (Kd.R_ne HO_3.out BK148.out (by decide))); have n1_ := Aside0.mk (Kd.R_after (ok := (fun _ => True)) (by (with_reducible repeat (fail)); exact HO158.out) hg hat); have n2_ := Aside0.mk (hb); have n3_ := Aside0.mk (ho); clear BK148; clear HO158; clear HB; clear HO_3; have BK148 := n0_; have HO158 := n1_; have HB := n2_; have HO161 := n3_; clear n0_ n1_ n2_ n3_; clear ho hb hg hat))
      go_meet
      case rel => exact ⟨_, (y159), H', ⟨by have := HJ3.out; first | omega⟩, ⟨by (with_reducible repeat (fail)); exact Kd.R_mono HO161.out (fun _ hk => trivial)⟩, ⟨by (with_reducible repeat (fail)); exact BK148.out⟩, ⟨by repeat (first | (with_reducible first | exact HB.out))⟩⟩
     ·rw [if_neg c21] at H
      exact absurd H (by simp)
   case rest =>
    clear HC17
    try clear c1
    try clear p1
    try clear q1
    try clear hx1
    try clear qi1
    try clear hf1
    try clear c2
    try clear p2
    try clear c3
    try clear c9
    try clear c12
    try clear c13
    try clear c13b0
    try clear c13b1
    try clear p14
    try clear q14
    try clear hx14
    try clear qi14
    try clear hf14
    try clear c19
    try clear c19b0
    try clear c19b1
    try clear c21
    try clear hcz11_0
    try clear hcz11_1
    try clear hcz11_2
    try clear hcz11_3
    try clear hcz11_4
    try clear hcz11_5
    try clear hcz18_0
    try clear hcz18_1
    try clear hcz18_2
    try clear hcz18_3
    try clear hcz18_4
    try clear hcz18_5
    try clear hcz22_0
    try clear hcz22_1
    try clear hcz22_2
    try clear hcz22_3
    try clear hcz22_4
    try clear hcz22_5
    try clear hfz11_0
    try clear hfz11_1
    try clear hfz11_2
    try clear hfz11_3
    try clear hfz11_4
    try clear hfz11_5
    try clear hfz18_0
    try clear hfz18_1
    try clear hfz18_2
    try clear hfz18_3
    try clear hfz18_4
    try clear hfz18_5
    try clear hfz22_0
    try clear hfz22_1
    try clear hfz22_2
    try clear hfz22_3
    try clear hfz22_4
    try clear hfz22_5
    try clear hx14_0
    try clear p1
    try clear p14
    try clear p2
    try clear q1
    try clear q14
    obtain ⟨kq, x3_16, HA, HJ16, HO_3, BK148, HB⟩ := hcut
    cases kq with
    | zero => exact absurd HA.out (by simp [plist_Text.j1])
    | succ kj16 =>
     have H := HA.out
     clear HA
     simp only [plist_Text.j1] at H
     by_cases c28 : a0_5 = 0
     ·rw [if_pos c28] at H
      have c28b0 : (a0_5 == 0) = true := beq_iff_eq.mpr c28
      have c28b1 : (a0_5 != 0) = false := bne_eq_false_iff_eq.mpr c28
      clear c28
      replace H := Option.bind_eq_some_iff.mp H
      obtain ⟨t162, A290, H⟩ := H
      replace H : (some t162) = some r := H
      have A29 := Aside0.mk A290
      clear A290
      obtain rfl := Option.some.inj H
      have hcz30_0 : wc.cell? ⟨gb148, 0, none⟩ = some (.int .i64 a0_0) := (blk_cell BK148.out 0).trans rfl
      have hcz30_1 : wc.cell? ⟨gb148, 1, none⟩ = some (.bool a0_1) := (blk_cell BK148.out 1).trans rfl
      have hcz30_2 : wc.cell? ⟨gb148, 2, none⟩ = some (.int .u32 a0_2) := (blk_cell BK148.out 2).trans rfl
      have hcz30_3 : wc.cell? ⟨gb148, 3, none⟩ = some (.int .i64 a0_3) := (blk_cell BK148.out 3).trans rfl
      have hcz30_4 : wc.cell? ⟨gb148, 4, none⟩ = some (.int .i64 a0_4) := (blk_cell BK148.out 4).trans rfl
      have hcz30_5 : wc.cell? ⟨gb148, 5, none⟩ = some (.int .i64 a0_5) := (blk_cell BK148.out 5).trans rfl
      have hfz30_0 := blk_frozen BK148.out 0
      have hfz30_1 := blk_frozen BK148.out 1
      have hfz30_2 := blk_frozen BK148.out 2
      have hfz30_3 := blk_frozen BK148.out 3
      have hfz30_4 := blk_frozen BK148.out 4
      have hfz30_5 := blk_frozen BK148.out 5
      obtain ⟨Ao31, co31, eo31⟩ := Kd.R_slice HO_3.out
      subst eo31
      go_wp2_with (first | ((with_reducible refine gate_callee (f := 36) rfl ?_); refine goesL_ (some 34) rfl rfl Tryz.func36 (by kernel_rfl) rfl #[.slice Ao31 x3_16.length co31, .string (⟨#[32]⟩ : ByteArray)] rfl (by (try simp only [List.map_toArray, List.map_cons, List.map_nil]); first | rfl) ?_; (with_reducible refine (strings_Join.calls _ _ x3_16 (⟨#[32]⟩ : ByteArray) t162 _ ?side1 ?side2 A29.out).mono ?_); (case side1 => repeat (first | exact (Kd.R_reads' HO_3.out).2.2)); (case side2 => exact (Kd.R_reads' HO_3.out).2.1); rintro e w32 ⟨rfl, hb⟩; refine ⟨_, rfl, ?_⟩; have n0_ := Aside0.mk (Kd.R_below (by (with_reducible repeat (fail)); exact HO_3.out) hb); have n1_ := Aside0.mk (blk_below (g := gb148) (o := .cells #[.int .i64 a0_0, .bool a0_1, .int .u32 a0_2, .int .i64 a0_3, .int .i64 a0_4, .int .i64 a0_5] 26 (0, 0)) (by (with_reducible repeat (fail)); exact BK148.out) hb); have n2_ := Aside0.mk (below_step (by repeat (first | (with_reducible first | exact HB.out))) hb); clear HO_3; clear BK148; clear HB; have HO_3 := n0_; have BK148 := n1_; have HB := n2_; clear n0_ n1_ n2_; (try clear hb); (try clear hb2); (try clear hk); (try clear hi)))
      go_ret
      exact ⟨by first | rfl, by repeat (first | (with_reducible first | exact HB.out))⟩
     ·rw [if_neg c28] at H
      have c28b0 : (a0_5 == 0) = false := beq_eq_false_iff_ne.mpr c28
      have c28b1 : (a0_5 != 0) = true := bne_iff_ne.mpr c28
      replace H := Option.bind_eq_some_iff.mp H
      obtain ⟨t163, A330, H⟩ := H
      replace H : ((some (([(⟨#[108, 101]⟩ : ByteArray), t163] : List ByteArray) : List ByteArray)).bind fun y164 => (if x3_16.length + y164.length < 8796093022208 then ((strings_Join.f (x3_16 ++ y164) (⟨#[32]⟩ : ByteArray)).bind fun t170 => (some t170)) else (none))) = some r := H
      have A33 := Aside0.mk A330
      clear A330
      obtain ⟨y164, hy164⟩ : ∃ y_ : List ByteArray, y_ = (([(⟨#[108, 101]⟩ : ByteArray), t163] : List ByteArray)) := ⟨_, rfl⟩
      replace H : (if x3_16.length + y164.length < 8796093022208 then ((strings_Join.f (x3_16 ++ y164) (⟨#[32]⟩ : ByteArray)).bind fun t170 => (some t170)) else (none)) = some r := by first | (have H2_ := (Option.bind_some _ _).symm.trans H; rw [hy164]; with_reducible exact H2_)
      have Ny164 := Aside0.mk hy164
      clear hy164
      by_cases c34 : x3_16.length + y164.length < 8796093022208
      ·rw [if_pos c34] at H
       have LMc34 := Aside0.mk c34
       clear c34
       obtain ⟨y167, hy167⟩ : ∃ y_ : List ByteArray, y_ = (x3_16 ++ y164) := ⟨_, rfl⟩
       replace H : ((strings_Join.f y167 (⟨#[32]⟩ : ByteArray)).bind fun t170 => (some t170)) = some r := by first | (rw [hy167]; with_reducible exact H)
       have Ny167 := Aside0.mk hy167
       clear hy167
       replace H := Option.bind_eq_some_iff.mp H
       obtain ⟨t170, A350, H⟩ := H
       replace H : (some t170) = some r := H
       have A35 := Aside0.mk A350
       clear A350
       obtain rfl := Option.some.inj H
       have hcz36_0 : wc.cell? ⟨gb148, 0, none⟩ = some (.int .i64 a0_0) := (blk_cell BK148.out 0).trans rfl
       have hcz36_1 : wc.cell? ⟨gb148, 1, none⟩ = some (.bool a0_1) := (blk_cell BK148.out 1).trans rfl
       have hcz36_2 : wc.cell? ⟨gb148, 2, none⟩ = some (.int .u32 a0_2) := (blk_cell BK148.out 2).trans rfl
       have hcz36_3 : wc.cell? ⟨gb148, 3, none⟩ = some (.int .i64 a0_3) := (blk_cell BK148.out 3).trans rfl
       have hcz36_4 : wc.cell? ⟨gb148, 4, none⟩ = some (.int .i64 a0_4) := (blk_cell BK148.out 4).trans rfl
       have hcz36_5 : wc.cell? ⟨gb148, 5, none⟩ = some (.int .i64 a0_5) := (blk_cell BK148.out 5).trans rfl
       have hfz36_0 := blk_frozen BK148.out 0
       have hfz36_1 := blk_frozen BK148.out 1
       have hfz36_2 := blk_frozen BK148.out 2
       have hfz36_3 := blk_frozen BK148.out 3
       have hfz36_4 := blk_frozen BK148.out 4
       have hfz36_5 := blk_frozen BK148.out 5
       go_wp2_with (first | ((with_reducible refine gate_callee (f := 34) rfl ?_); refine goesL_ (some 30) rfl rfl Tryz.func34 (by kernel_rfl) rfl #[.int .i64 a0_5] rfl (by (try simp only [List.map_toArray, List.map_cons, List.map_nil]); first | rfl) ?_; (with_reducible refine (strconv_Itoa.calls a0_5 t163 _ ?side1 A33.out).mono ?_); (case side1 => exact GW.below hG (by repeat (first | (with_reducible first | exact HB.out)))); rintro e w37 ⟨rfl, hb⟩; refine ⟨_, rfl, ?_⟩; have n0_ := Aside0.mk (Kd.R_below (by (with_reducible repeat (fail)); exact HO_3.out) hb); have n1_ := Aside0.mk (blk_below (g := gb148) (o := .cells #[.int .i64 a0_0, .bool a0_1, .int .u32 a0_2, .int .i64 a0_3, .int .i64 a0_4, .int .i64 a0_5] 26 (0, 0)) (by (with_reducible repeat (fail)); exact BK148.out) hb); have n2_ := Aside0.mk (below_step (by repeat (first | (with_reducible first | exact HB.out))) hb); clear HO_3; clear BK148; clear HB; have HO_3 := n0_; have BK148 := n1_; have HB := n2_; clear n0_ n1_ n2_; (try clear hb); (try clear hb2); (try clear hk); (try clear hi)) | ((with_reducible refine gate_dst (N := 31) rfl ?_); refine Kd.R_lit Kd.string _ 9 ?hg (N := 31) ?hd (xs := ([(⟨#[108, 101]⟩ : ByteArray), t163] : List ByteArray)) (inner := [.string (⟨#[108, 101]⟩ : ByteArray), .string t163]) (ok := fun _ => True) (okp := fun _ => True) ?hr ?hp (fun _ hk => hk) trivial (Below.refl _ _) (Nat.le_refl _) (by simp) ?_; (case hd => rfl); (case hg => rfl); (case hr => first | (go_simp; done)); (case hp => exact (Reps.one (show Kd.M Kd.string _ _ _ (⟨#[108, 101]⟩ : ByteArray) [.string (⟨#[108, 101]⟩ : ByteArray)] from rfl) (Reps.one (show Kd.M Kd.string _ _ _ t163 [.string t163] from rfl) (Reps.none _ _)))); intro v165 w38 ho39 hb hg_ hnew_; clear hg_ hnew_; (first | rw [← Ny164.out] at ho39); have n0_ := Aside0.mk (Kd.R_elder' (by (with_reducible repeat (fail)); exact HO_3.out) (Kd.R_base ho39) hb); have n1_ := Aside0.mk (Kd.R_lower (Kd.R_new' ho39 (Kd.R_lt (by (with_reducible repeat (fail)); exact HO_3.out))) (below_size (by repeat (first | (with_reducible first | exact HB.out))))); have n2_ := Aside0.mk (blk_below (g := gb148) (o := .cells #[.int .i64 a0_0, .bool a0_1, .int .u32 a0_2, .int .i64 a0_3, .int .i64 a0_4, .int .i64 a0_5] 26 (0, 0)) (by (with_reducible repeat (fail)); exact BK148.out) hb); have n3_ := Aside0.mk (below_step (by repeat (first | (with_reducible first | exact HB.out))) hb); clear HO_3; clear BK148; clear HB; have HO_3 := n0_; have HO166 := n1_; have BK148 := n2_; have HB := n3_; clear n0_ n1_ n2_ n3_; clear hb ho39; obtain ⟨Ao41, co41, eo41⟩ := Kd.R_slice HO166.out; subst eo41) | ((with_reducible refine gate_builtin (b := .append) (xs := #[.tmp 27, .tmp 31]) rfl ?_); at_builtin; refine Kd.R_append_rows Kd.string (w0 := w) w.heap.size rfl (.tmp 27) (.tmp 31) 62 9 (.string ⟨#[]⟩) 16 rfl Tryz.underlying62 info9 rfl (by decide) (by omega) u3 x3_16 y164 _ _ _ (fun k_ => some k_ ≠ (.slice Ao41 y164.length co41 : Value).ownBlock) (fun _ => False) rfl rfl ?aO ?aR (fun _ _ h => h) (fun _ h => h.elim) ?aF ?aB ?aS ?aL ?_; (case aR => repeat (first | exact (Kd.R_reads' HO166.out).2.2)); (case aB => exact (by repeat (first | (with_reducible first | exact HB.out)))); (case aF => exact (fun k_ hk => Kd.fresh' (Kd.R_lt (by (with_reducible repeat (fail)); exact HO166.out)) k_ hk)); (case aO => exact (by (with_reducible repeat (fail)); exact Kd.R_mono HO_3.out (fun _ hk => hk.2))); (case aS => exact (below_size (by repeat (first | (with_reducible first | exact HB.out))))); (case aL => have := LMc34.out; omega); intro v168 w40 ho hb hg hat; rw [← Ny167.out] at ho; have n0_ := Aside0.mk (blk_grown (g := gb148) (o := .cells #[.int .i64 a0_0, .bool a0_1, .int .u32 a0_2, .int .i64 a0_3, .int .i64 a0_4, .int .i64 a0_5] 26 (0, 0)) (by (with_reducible repeat (fail)); exact BK148.out) hg (Kd.R_ne HO_3.out BK148.out (by decide))); have n1_ := Aside0.mk (Kd.R_after (ok := (fun _ => True)) (by (with_reducible repeat (fail)); exact HO166.out) hg hat); have n2_ := Aside0.mk (hb); have n3_ := Aside0.mk (ho); clear BK148; clear HO166; clear HB; clear HO_3; have BK148 := n0_; have HO166 := n1_; have HB := n2_; have HO169 := n3_; clear n0_ n1_ n2_ n3_; clear ho hb hg hat; obtain ⟨Ao42, co42, eo42⟩ := Kd.R_slice HO169.out; subst eo42) | ((with_reducible refine gate_callee (f := 36) rfl ?_); refine goesL_ (some 34) rfl rfl Tryz.func36 (by kernel_rfl) rfl #[.slice Ao42 y167.length co42, .string (⟨#[32]⟩ : ByteArray)] rfl (by (try simp only [List.map_toArray, List.map_cons, List.map_nil]); first | rfl) ?_; (with_reducible refine (strings_Join.calls _ _ y167 (⟨#[32]⟩ : ByteArray) t170 _ ?side1 ?side2 A35.out).mono ?_); (case side1 => repeat (first | exact (Kd.R_reads' HO169.out).2.2)); (case side2 => exact (Kd.R_reads' HO169.out).2.1); rintro e w43 ⟨rfl, hb⟩; refine ⟨_, rfl, ?_⟩; have n0_ := Aside0.mk (Kd.R_below (by (with_reducible repeat (fail)); exact HO166.out) hb); have n1_ := Aside0.mk (Kd.R_below (by (with_reducible repeat (fail)); exact HO169.out) hb); have n2_ := Aside0.mk (blk_below (g := gb148) (o := .cells #[.int .i64 a0_0, .bool a0_1, .int .u32 a0_2, .int .i64 a0_3, .int .i64 a0_4, .int .i64 a0_5] 26 (0, 0)) (by (with_reducible repeat (fail)); exact BK148.out) hb); have n3_ := Aside0.mk (below_step (by repeat (first | (with_reducible first | exact HB.out))) hb); clear HO166; clear HO169; clear BK148; clear HB; have HO166 := n0_; have HO169 := n1_; have BK148 := n2_; have HB := n3_; clear n0_ n1_ n2_ n3_; (try clear hb); (try clear hb2); (try clear hk); (try clear hi)))
       go_ret
       exact ⟨by first | rfl, by repeat (first | (with_reducible first | exact HB.out))⟩
      ·rw [if_neg c34] at H
       exact absurd H (by simp)
end Go.Proofs.YthngpkfckhmiiaaGreatDoor.X
end
section
namespace Go.Proofs.YthngpkfckhmiiaaGreatDoor.X
open Go.RowKit Go.Proofs.YthngpkfckhmiiaaGreatDoorW.PrintWords Go.Proofs.YthngpkfckhmiiaaGreatDoorW.PrintLast Go.Proofs.YthngpkfckhmiiaaGreatDoorW.PrintMore
attribute [local go_sem] max2_int min2_int max_two min_two max_three min_three max_four min_four   -- for this text's walks alone
set_option linter.unusedVariables false
set_option linter.unusedSimpArgs false
def crossroadslaw07_alive.f (k : Nat)  : Option (Bool) := (plist_Parse.f (⟨#[53, 32, 112, 101, 114, 109, 105, 116, 32, 49, 48, 46, 48, 46, 48, 46, 48, 47, 56, 32, 108, 101, 32, 50, 52]⟩ : ByteArray)).bind fun bt171 => (if bt171.2.2.2.2.2.2 = 0 then ((plist_Means.f k bt171.1 bt171.2.1 bt171.2.2.1 bt171.2.2.2.1 bt171.2.2.2.2.1 bt171.2.2.2.2.2.1 167837696 16).bind fun t179 => (if t179 = true then ((plist_Means.f k bt171.1 bt171.2.1 bt171.2.2.1 bt171.2.2.2.1 bt171.2.2.2.2.1 bt171.2.2.2.2.2.1 167837952 25).bind fun t180 => (if t180 = true then (none) else ((plist_Text.f k bt171.1 bt171.2.1 bt171.2.2.1 bt171.2.2.2.1 bt171.2.2.2.2.1 bt171.2.2.2.2.2.1).bind fun t181 => (some (t181.toList == ([53, 32, 112, 101, 114, 109, 105, 116, 32, 49, 48, 46, 48, 46, 48, 46, 48, 47, 56, 32, 108, 101, 32, 50, 52] : List UInt8)))))) else (none))) else (none))
theorem crossroadslaw07_alive.mono : ∀ k, LeO (crossroadslaw07_alive.f k ) (crossroadslaw07_alive.f (k + 1) ) := by
 intro  k
 unfold crossroadslaw07_alive.f
 repeat' first
   | (with_reducible exact plist_Means.mono _ _ _ _ _ _ _ _ _)
   | (with_reducible exact plist_Text.mono _ _ _ _ _ _ _)
   | (with_reducible exact LeO.refl _)
   | (with_reducible exact LeO.none _)
   | (with_reducible refine LeO.ite ?_ ?_)
   | (with_reducible refine LeO.bind ?_ (fun _ => ?_))
   | exact plist_Means.mono _ _ _ _ _ _ _ _ _
   | exact plist_Text.mono _ _ _ _ _ _ _
   | exact LeO.none _
   | refine LeO.ite ?_ ?_
   | refine LeO.bind ?_ (fun _ => ?_)
set_option maxHeartbeats 8000000 in
set_option maxRecDepth 100000 in
theorem crossroadslaw07_alive.calls (k : Nat)  (r : Bool) (w : World) (hG : GW w) (h : crossroadslaw07_alive.f k  = some r) :
  Calls Tryz.prog 11 #[] w fun e w' => e = .returned (.bool r) ∧ Below w.heap.size w w' := by
 have hu26 := Tryz.underlying26
 have hu24 := Tryz.underlying24
 have HB := Aside0.mk (Below.refl w.heap.size w)
 have H : ((plist_Parse.f (⟨#[53, 32, 112, 101, 114, 109, 105, 116, 32, 49, 48, 46, 48, 46, 48, 46, 48, 47, 56, 32, 108, 101, 32, 50, 52]⟩ : ByteArray)).bind fun bt171 => (if bt171.2.2.2.2.2.2 = 0 then ((plist_Means.f k bt171.1 bt171.2.1 bt171.2.2.1 bt171.2.2.2.1 bt171.2.2.2.2.1 bt171.2.2.2.2.2.1 167837696 16).bind fun t179 => (if t179 = true then ((plist_Means.f k bt171.1 bt171.2.1 bt171.2.2.1 bt171.2.2.2.1 bt171.2.2.2.2.1 bt171.2.2.2.2.2.1 167837952 25).bind fun t180 => (if t180 = true then (none) else ((plist_Text.f k bt171.1 bt171.2.1 bt171.2.2.1 bt171.2.2.2.1 bt171.2.2.2.2.1 bt171.2.2.2.2.2.1).bind fun t181 => (some (t181.toList == ([53, 32, 112, 101, 114, 109, 105, 116, 32, 49, 48, 46, 48, 46, 48, 46, 48, 47, 56, 32, 108, 101, 32, 50, 52] : List UInt8)))))) else (none))) else (none))) = some r := h
 clear h
 replace H := Option.bind_eq_some_iff.mp H
 obtain ⟨⟨t171, t172, t173, t174, t175, t176, t177⟩, A10, H⟩ := H
 replace H : (if t177 = 0 then ((plist_Means.f k t171 t172 t173 t174 t175 t176 167837696 16).bind fun t179 => (if t179 = true then ((plist_Means.f k t171 t172 t173 t174 t175 t176 167837952 25).bind fun t180 => (if t180 = true then (none) else ((plist_Text.f k t171 t172 t173 t174 t175 t176).bind fun t181 => (some (t181.toList == ([53, 32, 112, 101, 114, 109, 105, 116, 32, 49, 48, 46, 48, 46, 48, 46, 48, 47, 56, 32, 108, 101, 32, 50, 52] : List UInt8)))))) else (none))) else (none)) = some r := H
 have A1 := Aside0.mk A10
 clear A10
 by_cases c2 : t177 = 0
 ·rw [if_pos c2] at H
  have c2b0 : (t177 == 0) = true := beq_iff_eq.mpr c2
  have c2b1 : (t177 != 0) = false := bne_eq_false_iff_eq.mpr c2
  clear c2
  replace H := Option.bind_eq_some_iff.mp H
  obtain ⟨t179, A30, H⟩ := H
  replace H : (if t179 = true then ((plist_Means.f k t171 t172 t173 t174 t175 t176 167837952 25).bind fun t180 => (if t180 = true then (none) else ((plist_Text.f k t171 t172 t173 t174 t175 t176).bind fun t181 => (some (t181.toList == ([53, 32, 112, 101, 114, 109, 105, 116, 32, 49, 48, 46, 48, 46, 48, 46, 48, 47, 56, 32, 108, 101, 32, 50, 52] : List UInt8)))))) else (none)) = some r := H
  have A3 := Aside0.mk A30
  clear A30
  by_cases c4 : t179 = true
  ·subst c4
   have H1 : ((plist_Means.f k t171 t172 t173 t174 t175 t176 167837952 25).bind fun t180 => (if t180 = true then (none) else ((plist_Text.f k t171 t172 t173 t174 t175 t176).bind fun t181 => (some (t181.toList == ([53, 32, 112, 101, 114, 109, 105, 116, 32, 49, 48, 46, 48, 46, 48, 46, 48, 47, 56, 32, 108, 101, 32, 50, 52] : List UInt8)))))) = some r := by rw [if_pos rfl] at H; exact H
   clear H
   have H := H1
   clear H1
   replace H := Option.bind_eq_some_iff.mp H
   obtain ⟨t180, A50, H⟩ := H
   replace H : (if t180 = true then (none) else ((plist_Text.f k t171 t172 t173 t174 t175 t176).bind fun t181 => (some (t181.toList == ([53, 32, 112, 101, 114, 109, 105, 116, 32, 49, 48, 46, 48, 46, 48, 46, 48, 47, 56, 32, 108, 101, 32, 50, 52] : List UInt8))))) = some r := H
   have A5 := Aside0.mk A50
   clear A50
   by_cases c6 : t180 = true
   ·subst c6
    have H1 : (none) = some r := by rw [if_pos rfl] at H; exact H
    clear H
    have H := H1
    clear H1
    exact absurd H (by simp)
   ·replace c6 := Bool.eq_false_iff.mpr c6
    subst c6
    have H1 : ((plist_Text.f k t171 t172 t173 t174 t175 t176).bind fun t181 => (some (t181.toList == ([53, 32, 112, 101, 114, 109, 105, 116, 32, 49, 48, 46, 48, 46, 48, 46, 48, 47, 56, 32, 108, 101, 32, 50, 52] : List UInt8)))) = some r := by rw [if_neg (show ¬ (false = true) by decide)] at H; exact H
    clear H
    have H := H1
    clear H1
    replace H := Option.bind_eq_some_iff.mp H
    obtain ⟨t181, A70, H⟩ := H
    replace H : (some (t181.toList == ([53, 32, 112, 101, 114, 109, 105, 116, 32, 49, 48, 46, 48, 46, 48, 46, 48, 47, 56, 32, 108, 101, 32, 50, 52] : List UInt8))) = some r := H
    have A7 := Aside0.mk A70
    clear A70
    obtain rfl := Option.some.inj H
    go_enter Tryz.func11, Tryz.ntmps11
    go_wp2_with (first | ((with_reducible refine gate_callee (f := 8) rfl ?_); refine goesL_ (some 4) rfl rfl Tryz.func8 (by kernel_rfl) rfl #[.string (⟨#[53, 32, 112, 101, 114, 109, 105, 116, 32, 49, 48, 46, 48, 46, 48, 46, 48, 47, 56, 32, 108, 101, 32, 50, 52]⟩ : ByteArray)] rfl (by (try simp only [List.map_toArray, List.map_cons, List.map_nil]); first | rfl) ?_; (with_reducible refine (plist_Parse.calls (⟨#[53, 32, 112, 101, 114, 109, 105, 116, 32, 49, 48, 46, 48, 46, 48, 46, 48, 47, 56, 32, 108, 101, 32, 50, 52]⟩ : ByteArray) t171 t172 t173 t174 t175 t176 t177 _ ?side1 A1.out).mono ?_); (case side1 => exact GW.below hG (by repeat (first | (with_reducible first | exact HB.out)))); rintro e w8 ⟨rfl, hb⟩; refine ⟨_, rfl, ?_⟩; have n0_ := Aside0.mk (below_step (by repeat (first | (with_reducible first | exact HB.out))) hb); clear HB; have HB := n0_; clear n0_; (try clear hb); (try clear hb2); (try clear hk); (try clear hi)) | ((with_reducible refine gate_dst (N := 1) rfl ?_); refine box_event ?hg (N := 1) ?hd (cs := #[.int .i64 0, .bool false, .int .u32 0, .int .i64 0, .int .i64 0, .int .i64 0]) (t := 26) ?hr ?_; (case hd => rfl); (case hg => rfl); (case hr => first | (go_simp; done)); intro gb178 hg w9 hbox hb; have n0_ := Aside0.mk (below_step (by repeat (first | (with_reducible first | exact HB.out))) hb); have n1_ := Aside0.mk (hbox); have n2_ := Aside0.mk ((by rw [hg]; exact (below_size (by repeat (first | (with_reducible first | exact HB.out)))) : w.heap.size ≤ gb178)); have n3_ := Aside0.mk ((by rw [hg]; exact (below_size (by repeat (first | (with_reducible first | exact HB.out)))) : w.heap.size ≤ gb178)); clear HB; have HB := n0_; have BK178 := n1_; have GW178 := n2_; have GE178 := n3_; clear n0_ n1_ n2_ n3_; clear hb hbox hg; have hcz10_0 : w9.cell? ⟨gb178, 0, none⟩ = some (.int .i64 0) := (blk_cell BK178.out 0).trans rfl; have hcz10_1 : w9.cell? ⟨gb178, 1, none⟩ = some (.bool false) := (blk_cell BK178.out 1).trans rfl; have hcz10_2 : w9.cell? ⟨gb178, 2, none⟩ = some (.int .u32 0) := (blk_cell BK178.out 2).trans rfl; have hcz10_3 : w9.cell? ⟨gb178, 3, none⟩ = some (.int .i64 0) := (blk_cell BK178.out 3).trans rfl; have hcz10_4 : w9.cell? ⟨gb178, 4, none⟩ = some (.int .i64 0) := (blk_cell BK178.out 4).trans rfl; have hcz10_5 : w9.cell? ⟨gb178, 5, none⟩ = some (.int .i64 0) := (blk_cell BK178.out 5).trans rfl; have hfz10_0 := blk_frozen BK178.out 0; have hfz10_1 := blk_frozen BK178.out 1; have hfz10_2 := blk_frozen BK178.out 2; have hfz10_3 := blk_frozen BK178.out 3; have hfz10_4 := blk_frozen BK178.out 4; have hfz10_5 := blk_frozen BK178.out 5) | (go_at_call 14; (with_reducible refine (plist_Means.calls k t171 t172 t173 t174 t175 t176 167837696 16 true _ A3.out).mono ?_); rintro e w11 ⟨rfl, hb⟩; have n0_ := Aside0.mk (blk_below (g := gb178) (o := .cells #[.int .i64 t171, .bool t172, .int .u32 t173, .int .i64 t174, .int .i64 t175, .int .i64 t176] 26 (0, 0)) (by (with_reducible repeat (fail)); refine blk_put (cs := #[.int .i64 t171, .bool t172, .int .u32 t173, .int .i64 t174, .int .i64 t175, .int .i64 0]) ?_ 5 _ rfl; (with_reducible repeat (fail)); refine blk_put (cs := #[.int .i64 t171, .bool t172, .int .u32 t173, .int .i64 t174, .int .i64 0, .int .i64 0]) ?_ 4 _ rfl; (with_reducible repeat (fail)); refine blk_put (cs := #[.int .i64 t171, .bool t172, .int .u32 t173, .int .i64 0, .int .i64 0, .int .i64 0]) ?_ 3 _ rfl; (with_reducible repeat (fail)); refine blk_put (cs := #[.int .i64 t171, .bool t172, .int .u32 0, .int .i64 0, .int .i64 0, .int .i64 0]) ?_ 2 _ rfl; (with_reducible repeat (fail)); refine blk_put (cs := #[.int .i64 t171, .bool false, .int .u32 0, .int .i64 0, .int .i64 0, .int .i64 0]) ?_ 1 _ rfl; (with_reducible repeat (fail)); refine blk_put (cs := #[.int .i64 0, .bool false, .int .u32 0, .int .i64 0, .int .i64 0, .int .i64 0]) ?_ 0 _ rfl; (with_reducible repeat (fail)); exact BK178.out) hb); have n1_ := Aside0.mk (below_step (by repeat (first | (with_reducible first | exact HB.out | refine below_set ?_ GE178.out))) hb); clear BK178; clear HB; have BK178 := n0_; have HB := n1_; clear n0_ n1_; (try clear hb); (try clear hb2); (try clear hk); (try clear hi); have hcz12_0 : w11.cell? ⟨gb178, 0, none⟩ = some (.int .i64 t171) := (blk_cell BK178.out 0).trans rfl; have hcz12_1 : w11.cell? ⟨gb178, 1, none⟩ = some (.bool t172) := (blk_cell BK178.out 1).trans rfl; have hcz12_2 : w11.cell? ⟨gb178, 2, none⟩ = some (.int .u32 t173) := (blk_cell BK178.out 2).trans rfl; have hcz12_3 : w11.cell? ⟨gb178, 3, none⟩ = some (.int .i64 t174) := (blk_cell BK178.out 3).trans rfl; have hcz12_4 : w11.cell? ⟨gb178, 4, none⟩ = some (.int .i64 t175) := (blk_cell BK178.out 4).trans rfl; have hcz12_5 : w11.cell? ⟨gb178, 5, none⟩ = some (.int .i64 t176) := (blk_cell BK178.out 5).trans rfl; have hfz12_0 := blk_frozen BK178.out 0; have hfz12_1 := blk_frozen BK178.out 1; have hfz12_2 := blk_frozen BK178.out 2; have hfz12_3 := blk_frozen BK178.out 3; have hfz12_4 := blk_frozen BK178.out 4; have hfz12_5 := blk_frozen BK178.out 5) | (go_at_call 14; (with_reducible refine (plist_Means.calls k t171 t172 t173 t174 t175 t176 167837952 25 false _ A5.out).mono ?_); rintro e w13 ⟨rfl, hb⟩; have n0_ := Aside0.mk (blk_below (g := gb178) (o := .cells #[.int .i64 t171, .bool t172, .int .u32 t173, .int .i64 t174, .int .i64 t175, .int .i64 t176] 26 (0, 0)) (by (with_reducible repeat (fail)); exact BK178.out) hb); have n1_ := Aside0.mk (below_step (by repeat (first | (with_reducible first | exact HB.out))) hb); clear BK178; clear HB; have BK178 := n0_; have HB := n1_; clear n0_ n1_; (try clear hb); (try clear hb2); (try clear hk); (try clear hi); have hcz14_0 : w13.cell? ⟨gb178, 0, none⟩ = some (.int .i64 t171) := (blk_cell BK178.out 0).trans rfl; have hcz14_1 : w13.cell? ⟨gb178, 1, none⟩ = some (.bool t172) := (blk_cell BK178.out 1).trans rfl; have hcz14_2 : w13.cell? ⟨gb178, 2, none⟩ = some (.int .u32 t173) := (blk_cell BK178.out 2).trans rfl; have hcz14_3 : w13.cell? ⟨gb178, 3, none⟩ = some (.int .i64 t174) := (blk_cell BK178.out 3).trans rfl; have hcz14_4 : w13.cell? ⟨gb178, 4, none⟩ = some (.int .i64 t175) := (blk_cell BK178.out 4).trans rfl; have hcz14_5 : w13.cell? ⟨gb178, 5, none⟩ = some (.int .i64 t176) := (blk_cell BK178.out 5).trans rfl; have hfz14_0 := blk_frozen BK178.out 0; have hfz14_1 := blk_frozen BK178.out 1; have hfz14_2 := blk_frozen BK178.out 2; have hfz14_3 := blk_frozen BK178.out 3; have hfz14_4 := blk_frozen BK178.out 4; have hfz14_5 := blk_frozen BK178.out 5) | (go_at_call 9; (with_reducible refine (plist_Text.calls k t171 t172 t173 t174 t175 t176 t181 _ ?side1 A7.out).mono ?_); (case side1 => exact GW.below hG (by repeat (first | (with_reducible first | exact HB.out)))); rintro e w15 ⟨rfl, hb⟩; have n0_ := Aside0.mk (blk_below (g := gb178) (o := .cells #[.int .i64 t171, .bool t172, .int .u32 t173, .int .i64 t174, .int .i64 t175, .int .i64 t176] 26 (0, 0)) (by (with_reducible repeat (fail)); exact BK178.out) hb); have n1_ := Aside0.mk (below_step (by repeat (first | (with_reducible first | exact HB.out))) hb); clear BK178; clear HB; have BK178 := n0_; have HB := n1_; clear n0_ n1_; (try clear hb); (try clear hb2); (try clear hk); (try clear hi)))
    go_ret
    exact ⟨by first | rfl, by repeat (first | (with_reducible first | exact HB.out))⟩
  ·replace c4 := Bool.eq_false_iff.mpr c4
   subst c4
   have H1 : (none) = some r := by rw [if_neg (show ¬ (false = true) by decide)] at H; exact H
   clear H
   have H := H1
   clear H1
   exact absurd H (by simp)
 ·rw [if_neg c2] at H
  exact absurd H (by simp)
def crossroadsref03_Bit.f (a0 : Int) (a1 : Int) : Option (Int) := if a1 < 0 then (some 0) else (if a1 > 31 then (some 0) else (if 0 ≤ (IntKind.u64.wrap (wrap64 (31 - a1))) then (some (wrap64 (Go.bits .and .u32 (shr .u32 a0 (IntKind.u64.wrap (wrap64 (31 - a1)))) 1))) else (none)))
set_option maxHeartbeats 8000000 in
set_option maxRecDepth 100000 in
theorem crossroadsref03_Bit.calls (a0 : Int) (a1 : Int) (r : Int) (w : World) (h : crossroadsref03_Bit.f a0 a1 = some r) :
  Calls Tryz.prog 69 #[.int .u32 a0, .int .i64 a1] w fun e w' => e = .returned (.int .i64 r) ∧ Drawn0 w w' := by
 have H : (if a1 < 0 then (some 0) else (if a1 > 31 then (some 0) else (if 0 ≤ (IntKind.u64.wrap (wrap64 (31 - a1))) then (some (wrap64 (Go.bits .and .u32 (shr .u32 a0 (IntKind.u64.wrap (wrap64 (31 - a1)))) 1))) else (none)))) = some r := h
 clear h
 by_cases c3 : a1 < 0
 ·rw [if_pos c3] at H
  have c3b0 : decide (a1 < 0) = true := decide_eq_true c3
  clear c3
  obtain rfl := Option.some.inj H
  go_enter Tryz.func69, Tryz.ntmps69
  go_wp2
  go_ret
  exact ⟨by first | rfl, by repeat (first | exact Drawn0.refl _)⟩
 ·rw [if_neg c3] at H
  have c3b0 : decide (a1 < 0) = false := decide_eq_false c3
  clear c3
  by_cases c4 : a1 > 31
  ·rw [if_pos c4] at H
   have c4b0 : decide (31 < a1) = true := decide_eq_true c4
   clear c4
   obtain rfl := Option.some.inj H
   go_enter Tryz.func69, Tryz.ntmps69
   go_wp2
   go_ret
   exact ⟨by first | rfl, by repeat (first | exact Drawn0.refl _)⟩
  ·rw [if_neg c4] at H
   have c4b0 : decide (31 < a1) = false := decide_eq_false c4
   clear c4
   obtain ⟨ji5, hji5⟩ : ∃ j_ : Int, (IntKind.u64.wrap (wrap64 (31 - a1))) = j_ := ⟨_, rfl⟩
   replace H : (if 0 ≤ (ji5) then (some (wrap64 (Go.bits .and .u32 (shr .u32 a0 (ji5)) 1))) else (none)) = some r := by first | (rw [hji5] at H; exact H)
   by_cases c6 : 0 ≤ (ji5)
   ·rw [if_pos c6] at H
    have c6b0 := eq_true c6
    have c6b1 : decide (0 ≤ (ji5)) = true := decide_eq_true c6
    clear c6
    obtain ⟨ji7, hji7⟩ : ∃ j_ : Int, (shr .u32 a0 (ji5)) = j_ := ⟨_, rfl⟩
    replace H : (some (wrap64 (Go.bits .and .u32 (ji7) 1))) = some r := by first | (rw [hji7] at H; exact H)
    have hji7_ : (a0 / 2 ^ min (ji5).toNat 32) = ji7 := hji7
    have hji7z : (ji5) ≤ 32 → (a0 / 2 ^ (ji5).toNat) = ji7 := shr_small hji7
    obtain rfl := Option.some.inj H
    go_enter Tryz.func69, Tryz.ntmps69
    go_wp2
    go_ret
    exact ⟨by first | rfl, by repeat (first | exact Drawn0.refl _)⟩
   ·rw [if_neg c6] at H
    exact absurd H (by simp)
end Go.Proofs.YthngpkfckhmiiaaGreatDoor.X
end
section
namespace Go.Proofs.YthngpkfckhmiiaaGreatDoor.X
open Go.RowKit Go.Proofs.YthngpkfckhmiiaaGreatDoorW.PrintWords Go.Proofs.YthngpkfckhmiiaaGreatDoorW.PrintLast Go.Proofs.YthngpkfckhmiiaaGreatDoorW.PrintMore
attribute [local go_sem] max2_int min2_int max_two min_two max_three min_three max_four min_four   -- for this text's walks alone
set_option linter.unusedVariables false
set_option linter.unusedSimpArgs false
mutual
def crossroadsref03_May.j0 : Nat → Bool → Int → Int → Option (Bool)
  | 0, _, _, _ => none
  | k + 1, x11, x183000, x183001 => if x11 = true then (some false) else (crossroadsref03_May.l0 k x183001 x183000 x183001)
def crossroadsref03_May.l0 : Nat → Int → Int → Int → Option (Bool)
  | 0, _, _, _ => none
  | k + 1, x3, x183000, x183001 => if x3 < 32 then ((crossroadsref03_Bit.f x183000 x3).bind fun t183 => (if t183 = 1 then (some false) else (crossroadsref03_May.l0 k (wrap64 (x3 + 1)) x183000 x183001))) else (some true)
end
def crossroadsref03_May.f (k : Nat) (a0_0 : Int) (a0_1 : Int) : Option (Bool) := if a0_1 < 0 then (crossroadsref03_May.j0 k true a0_0 a0_1) else (crossroadsref03_May.j0 k (decide (a0_1 > 32)) a0_0 a0_1)
set_option maxHeartbeats 8000000 in
set_option maxRecDepth 100000 in
theorem crossroadsref03_May.calls (k : Nat) (a0_0 : Int) (a0_1 : Int) (r : Bool) (w : World) (h : crossroadsref03_May.f k a0_0 a0_1 = some r) :
  Calls Tryz.prog 38 #[.agg #[.int .u32 a0_0, .int .i64 a0_1]] w fun e w' => e = .returned (.bool r) ∧ Below w.heap.size w w' := by
 have hu24 := Tryz.underlying24
 have HB := Aside0.mk (Below.refl w.heap.size w)
 have H : (if a0_1 < 0 then (crossroadsref03_May.j0 k true a0_0 a0_1) else (crossroadsref03_May.j0 k (decide (a0_1 > 32)) a0_0 a0_1)) = some r := h
 clear h
 have HC2 := Aside0.mk H
 clear H
 go_enter Tryz.func38, Tryz.ntmps38
 go_upto_region 1 with (first | ((with_reducible refine gate_dst (N := 1) rfl ?_); refine box_event ?hg (N := 1) ?hd (cs := #[.int .u32 a0_0, .int .i64 a0_1]) (t := 24) ?hr ?_; (case hd => rfl); (case hg => rfl); (case hr => first | (go_simp; done)); intro gb182 hg w3 hbox hb; have n0_ := Aside0.mk (below_step (by repeat (first | (with_reducible first | exact HB.out))) hb); have n1_ := Aside0.mk (hbox); have n2_ := Aside0.mk ((by rw [hg]; exact (below_size (by repeat (first | (with_reducible first | exact HB.out)))) : w.heap.size ≤ gb182)); have n3_ := Aside0.mk ((by rw [hg]; exact (below_size (by repeat (first | (with_reducible first | exact HB.out)))) : w.heap.size ≤ gb182)); clear HB; have HB := n0_; have BK182 := n1_; have GW182 := n2_; have GE182 := n3_; clear n0_ n1_ n2_ n3_; clear hb hbox hg))
 (try simp only [Act.put, List.setIfInBounds_toArray, List.set_cons_zero, List.set_cons_succ])
 go_cut [11] (fun v11 wc => ∃ (kq : Nat) (x11_1 : Bool), v11 = .bool x11_1 ∧ Aside0 (crossroadsref03_May.j0 kq x11_1 a0_0 a0_1 = some r) ∧ Aside0 (kq ≤ k) ∧ Aside0 (wc.heap[gb182]? = some (.cells #[.int .u32 a0_0, .int .i64 a0_1] 24 (0, 0))) ∧ Aside0 (Below w.heap.size w wc))
 case first =>
  have H := HC2.out
  clear HC2
  by_cases c4 : a0_1 < 0
  ·rw [if_pos c4] at H
   have c4b0 : decide (a0_1 < 0) = true := decide_eq_true c4
   clear c4
   (first | skip)
   have H' := Aside0.mk H
   clear H
   have hcz5_0 : w3.cell? ⟨gb182, 0, none⟩ = some (.int .u32 a0_0) := (blk_cell BK182.out 0).trans rfl
   have hcz5_1 : w3.cell? ⟨gb182, 1, none⟩ = some (.int .i64 a0_1) := (blk_cell BK182.out 1).trans rfl
   have hfz5_0 := blk_frozen BK182.out 0
   have hfz5_1 := blk_frozen BK182.out 1
   go_wp2
   go_meet
   case rel => exact ⟨_, (true), (by first | rfl), H', ⟨by first | omega⟩, ⟨by (with_reducible repeat (fail)); exact BK182.out⟩, ⟨by repeat (first | (with_reducible first | exact HB.out))⟩⟩
  ·rw [if_neg c4] at H
   have c4b0 : decide (a0_1 < 0) = false := decide_eq_false c4
   clear c4
   (first | skip)
   have H' := Aside0.mk H
   clear H
   have hcz6_0 : w3.cell? ⟨gb182, 0, none⟩ = some (.int .u32 a0_0) := (blk_cell BK182.out 0).trans rfl
   have hcz6_1 : w3.cell? ⟨gb182, 1, none⟩ = some (.int .i64 a0_1) := (blk_cell BK182.out 1).trans rfl
   have hfz6_0 := blk_frozen BK182.out 0
   have hfz6_1 := blk_frozen BK182.out 1
   go_wp2
   go_meet
   case rel => exact ⟨_, (decide (a0_1 > 32)), (by first | rfl), H', ⟨by first | omega⟩, ⟨by (with_reducible repeat (fail)); exact BK182.out⟩, ⟨by repeat (first | (with_reducible first | exact HB.out))⟩⟩
 case rest =>
  clear HC2
  try clear p2
  try clear c3
  try clear c4
  try clear c4b0
  try clear hcz5_0
  try clear hcz5_1
  try clear hcz6_0
  try clear hcz6_1
  try clear hfz5_0
  try clear hfz5_1
  try clear hfz6_0
  try clear hfz6_1
  obtain ⟨kq, x11_1, rfl, HA, HJ1, BK182, HB⟩ := hcut
  cases kq with
  | zero => exact absurd HA.out (by simp [crossroadsref03_May.j0])
  | succ kj1 =>
   have H := HA.out
   clear HA
   simp only [crossroadsref03_May.j0] at H
   by_cases c7 : x11_1 = true
   ·subst c7
    have H1 : (some false) = some r := by rw [if_pos rfl] at H; exact H
    clear H
    have H := H1
    clear H1
    obtain rfl := Option.some.inj H
    go_wp2
    go_ret
    exact ⟨by first | rfl, by repeat (first | (with_reducible first | exact HB.out))⟩
   ·replace c7 := Bool.eq_false_iff.mpr c7
    subst c7
    have H1 : (crossroadsref03_May.l0 kj1 a0_1 a0_0 a0_1) = some r := by rw [if_neg (show ¬ (false = true) by decide)] at H; exact H
    clear H
    have H := H1
    clear H1
    have H' := Aside0.mk H
    clear H
    have hcz8_0 : wc.cell? ⟨gb182, 0, none⟩ = some (.int .u32 a0_0) := (blk_cell BK182.out 0).trans rfl
    have hcz8_1 : wc.cell? ⟨gb182, 1, none⟩ = some (.int .i64 a0_1) := (blk_cell BK182.out 1).trans rfl
    have hfz8_0 := blk_frozen BK182.out 0
    have hfz8_1 := blk_frozen BK182.out 1
    go_wp2
    go_loopg [3] kj1 (fun kq v3 w' => ∃ (x3_2 : Int), v3 = .int .i64 x3_2 ∧ Aside0 (crossroadsref03_May.l0 kq x3_2 a0_0 a0_1 = some r) ∧ Aside0 (kq ≤ kj1) ∧ Aside0 (w'.heap[gb182]? = some (.cells #[.int .u32 a0_0, .int .i64 a0_1] 24 (0, 0))) ∧ Aside0 (Below w.heap.size w w'))
    case atStart => exact ⟨(a0_1), (by first | rfl), H', ⟨Nat.le_refl _⟩, ⟨by (with_reducible repeat (fail)); exact BK182.out⟩, ⟨by repeat (first | (with_reducible first | exact HB.out))⟩⟩
    case round =>
     clear H'
     try clear p2
     try clear c3
     try clear c4
     try clear c4b0
     try clear c7
     try clear hcz5_0
     try clear hcz5_1
     try clear hcz6_0
     try clear hcz6_1
     try clear hcz8_0
     try clear hcz8_1
     try clear hfz5_0
     try clear hfz5_1
     try clear hfz6_0
     try clear hfz6_1
     try clear hfz8_0
     try clear hfz8_1
     try clear p2
     obtain ⟨x3_2, rfl, HA, HK2, BK182, HB⟩ := hrel
     cases gk with
     | zero => exact absurd HA.out (by simp [crossroadsref03_May.l0])
     | succ k2 =>
      have H := HA.out
      clear HA
      simp only [crossroadsref03_May.l0] at H
      by_cases c9 : x3_2 < 32
      ·rw [if_pos c9] at H
       have c9b0 : decide (x3_2 < 32) = true := decide_eq_true c9
       clear c9
       replace H := Option.bind_eq_some_iff.mp H
       obtain ⟨t183, A100, H⟩ := H
       replace H : (if t183 = 1 then (some false) else (crossroadsref03_May.l0 k2 (wrap64 (x3_2 + 1)) a0_0 a0_1)) = some r := H
       have A10 := Aside0.mk A100
       clear A100
       by_cases c11 : t183 = 1
       ·rw [if_pos c11] at H
        have c11b0 : (t183 == 1) = true := beq_iff_eq.mpr c11
        have c11b1 : (t183 != 1) = false := bne_eq_false_iff_eq.mpr c11
        clear c11
        obtain rfl := Option.some.inj H
        have hcz12_0 : wr.cell? ⟨gb182, 0, none⟩ = some (.int .u32 a0_0) := (blk_cell BK182.out 0).trans rfl
        have hcz12_1 : wr.cell? ⟨gb182, 1, none⟩ = some (.int .i64 a0_1) := (blk_cell BK182.out 1).trans rfl
        have hfz12_0 := blk_frozen BK182.out 0
        have hfz12_1 := blk_frozen BK182.out 1
        go_wp2_with (first | ((with_reducible refine gate_callee (f := 69) rfl ?_); refine goesL_ (some 21) rfl rfl Tryz.func69 (by kernel_rfl) rfl #[.int .u32 a0_0, .int .i64 x3_2] rfl (by (try simp only [List.map_toArray, List.map_cons, List.map_nil]); first | rfl) ?_; (with_reducible refine (crossroadsref03_Bit.calls a0_0 x3_2 t183 _ A10.out).mono ?_); rintro e w' ⟨rfl, ⟨nd, rfl⟩⟩; refine ⟨_, rfl, ?_⟩))
        go_ret
        exact ⟨by first | rfl, by repeat (first | (with_reducible first | exact HB.out | apply pw_below_drewN))⟩
       ·rw [if_neg c11] at H
        have c11b0 : (t183 == 1) = false := beq_eq_false_iff_ne.mpr c11
        have c11b1 : (t183 != 1) = true := bne_iff_ne.mpr c11
        have H' := Aside0.mk H
        clear H
        have hcz13_0 : wr.cell? ⟨gb182, 0, none⟩ = some (.int .u32 a0_0) := (blk_cell BK182.out 0).trans rfl
        have hcz13_1 : wr.cell? ⟨gb182, 1, none⟩ = some (.int .i64 a0_1) := (blk_cell BK182.out 1).trans rfl
        have hfz13_0 := blk_frozen BK182.out 0
        have hfz13_1 := blk_frozen BK182.out 1
        go_wp2_with (first | ((with_reducible refine gate_callee (f := 69) rfl ?_); refine goesL_ (some 21) rfl rfl Tryz.func69 (by kernel_rfl) rfl #[.int .u32 a0_0, .int .i64 x3_2] rfl (by (try simp only [List.map_toArray, List.map_cons, List.map_nil]); first | rfl) ?_; (with_reducible refine (crossroadsref03_Bit.calls a0_0 x3_2 t183 _ A10.out).mono ?_); rintro e w' ⟨rfl, ⟨nd, rfl⟩⟩; refine ⟨_, rfl, ?_⟩))
        go_roundg k2
        case measure => have := HJ1.out; have := HK2.out; omega
        case rel => exact ⟨(wrap64 (x3_2 + 1)), (by first | rfl), H', ⟨by have := HJ1.out; have := HK2.out; omega⟩, ⟨by (with_reducible repeat (first | refine blk_drewN ?_ _)); exact BK182.out⟩, ⟨by repeat (first | (with_reducible first | exact HB.out | apply pw_below_drewN))⟩⟩
      ·rw [if_neg c9] at H
       have c9b0 : decide (x3_2 < 32) = false := decide_eq_false c9
       clear c9
       obtain rfl := Option.some.inj H
       go_wp2
       go_ret
       exact ⟨by first | rfl, by repeat (first | (with_reducible first | exact HB.out))⟩
end Go.Proofs.YthngpkfckhmiiaaGreatDoor.X
end
section
namespace Go.Proofs.YthngpkfckhmiiaaGreatDoor.X
open Go.RowKit Go.Proofs.YthngpkfckhmiiaaGreatDoorW.PrintWords Go.Proofs.YthngpkfckhmiiaaGreatDoorW.PrintLast Go.Proofs.YthngpkfckhmiiaaGreatDoorW.PrintMore
attribute [local go_sem] max2_int min2_int max_two min_two max_three min_three max_four min_four   -- for this text's walks alone
set_option linter.unusedVariables false
set_option linter.unusedSimpArgs false
def crossroadsref07_May.j0 : Nat → Bool → Int → Bool → Int → Int → Int → Int → Option (Bool)
 | 0, _, _, _, _, _, _, _ => none
 | k + 1, x16, x185000, x185001, x185002, x185003, x185004, x185005 => if x16 = true then (some false) else (if x185004 = 0 then (if x185005 = 0 then (some true) else (if x185005 ≥ x185004 then (if x185005 ≥ x185003 then (some (decide (x185005 ≤ 32))) else (some false)) else (some false))) else (if x185004 ≤ x185003 then (some false) else (if x185004 > 32 then (some false) else (if x185005 = 0 then (some true) else (if x185005 ≥ x185004 then (if x185005 ≥ x185003 then (some (decide (x185005 ≤ 32))) else (some false)) else (some false))))))
def crossroadsref07_May.f (k : Nat) (a0_0 : Int) (a0_1 : Bool) (a0_2 : Int) (a0_3 : Int) (a0_4 : Int) (a0_5 : Int) : Option (Bool) := if a0_0 < 1 then (crossroadsref07_May.j0 k true a0_0 a0_1 a0_2 a0_3 a0_4 a0_5) else (if a0_0 > 65535 then (crossroadsref07_May.j0 k true a0_0 a0_1 a0_2 a0_3 a0_4 a0_5) else ((crossroadsref03_May.f k a0_2 a0_3).bind fun t185 => (crossroadsref07_May.j0 k (!t185) a0_0 a0_1 a0_2 a0_3 a0_4 a0_5)))
set_option maxHeartbeats 8000000 in
set_option maxRecDepth 100000 in
theorem crossroadsref07_May.calls (k : Nat) (a0_0 : Int) (a0_1 : Bool) (a0_2 : Int) (a0_3 : Int) (a0_4 : Int) (a0_5 : Int) (r : Bool) (w : World) (h : crossroadsref07_May.f k a0_0 a0_1 a0_2 a0_3 a0_4 a0_5 = some r) :
  Calls Tryz.prog 12 #[.agg #[.int .i64 a0_0, .bool a0_1, .int .u32 a0_2, .int .i64 a0_3, .int .i64 a0_4, .int .i64 a0_5]] w fun e w' => e = .returned (.bool r) ∧ Below w.heap.size w w' := by
 have hu34 := Tryz.underlying34
 have hu24 := Tryz.underlying24
 have HB := Aside0.mk (Below.refl w.heap.size w)
 have H : (if a0_0 < 1 then (crossroadsref07_May.j0 k true a0_0 a0_1 a0_2 a0_3 a0_4 a0_5) else (if a0_0 > 65535 then (crossroadsref07_May.j0 k true a0_0 a0_1 a0_2 a0_3 a0_4 a0_5) else ((crossroadsref03_May.f k a0_2 a0_3).bind fun t185 => (crossroadsref07_May.j0 k (!t185) a0_0 a0_1 a0_2 a0_3 a0_4 a0_5)))) = some r := h
 clear h
 have HC2 := Aside0.mk H
 clear H
 go_enter Tryz.func12, Tryz.ntmps12
 go_upto_region 1 with (first | ((with_reducible refine gate_dst (N := 1) rfl ?_); refine box_event ?hg (N := 1) ?hd (cs := #[.int .i64 a0_0, .bool a0_1, .int .u32 a0_2, .int .i64 a0_3, .int .i64 a0_4, .int .i64 a0_5]) (t := 34) ?hr ?_; (case hd => rfl); (case hg => rfl); (case hr => first | (go_simp; done)); intro gb184 hg w3 hbox hb; have n0_ := Aside0.mk (below_step (by repeat (first | (with_reducible first | exact HB.out))) hb); have n1_ := Aside0.mk (hbox); have n2_ := Aside0.mk ((by rw [hg]; exact (below_size (by repeat (first | (with_reducible first | exact HB.out)))) : w.heap.size ≤ gb184)); have n3_ := Aside0.mk ((by rw [hg]; exact (below_size (by repeat (first | (with_reducible first | exact HB.out)))) : w.heap.size ≤ gb184)); clear HB; have HB := n0_; have BK184 := n1_; have GW184 := n2_; have GE184 := n3_; clear n0_ n1_ n2_ n3_; clear hb hbox hg))
 (try simp only [Act.put, List.setIfInBounds_toArray, List.set_cons_zero, List.set_cons_succ])
 go_cut [16] (fun v16 wc => ∃ (kq : Nat) (x16_1 : Bool), v16 = .bool x16_1 ∧ Aside0 (crossroadsref07_May.j0 kq x16_1 a0_0 a0_1 a0_2 a0_3 a0_4 a0_5 = some r) ∧ Aside0 (kq ≤ k) ∧ Aside0 (wc.heap[gb184]? = some (.cells #[.int .i64 a0_0, .bool a0_1, .int .u32 a0_2, .int .i64 a0_3, .int .i64 a0_4, .int .i64 a0_5] 34 (0, 0))) ∧ Aside0 (Below w.heap.size w wc))
 case first =>
  have H := HC2.out
  clear HC2
  by_cases c4 : a0_0 < 1
  ·rw [if_pos c4] at H
   have c4b0 : decide (a0_0 < 1) = true := decide_eq_true c4
   clear c4
   (first | skip)
   have H' := Aside0.mk H
   clear H
   have hcz5_0 : w3.cell? ⟨gb184, 0, none⟩ = some (.int .i64 a0_0) := (blk_cell BK184.out 0).trans rfl
   have hcz5_1 : w3.cell? ⟨gb184, 1, none⟩ = some (.bool a0_1) := (blk_cell BK184.out 1).trans rfl
   have hcz5_2 : w3.cell? ⟨gb184, 2, none⟩ = some (.int .u32 a0_2) := (blk_cell BK184.out 2).trans rfl
   have hcz5_3 : w3.cell? ⟨gb184, 3, none⟩ = some (.int .i64 a0_3) := (blk_cell BK184.out 3).trans rfl
   have hcz5_4 : w3.cell? ⟨gb184, 4, none⟩ = some (.int .i64 a0_4) := (blk_cell BK184.out 4).trans rfl
   have hcz5_5 : w3.cell? ⟨gb184, 5, none⟩ = some (.int .i64 a0_5) := (blk_cell BK184.out 5).trans rfl
   have hfz5_0 := blk_frozen BK184.out 0
   have hfz5_1 := blk_frozen BK184.out 1
   have hfz5_2 := blk_frozen BK184.out 2
   have hfz5_3 := blk_frozen BK184.out 3
   have hfz5_4 := blk_frozen BK184.out 4
   have hfz5_5 := blk_frozen BK184.out 5
   go_wp2
   go_meet
   case rel => exact ⟨_, (true), (by first | rfl), H', ⟨by first | omega⟩, ⟨by (with_reducible repeat (fail)); exact BK184.out⟩, ⟨by repeat (first | (with_reducible first | exact HB.out))⟩⟩
  ·rw [if_neg c4] at H
   have c4b0 : decide (a0_0 < 1) = false := decide_eq_false c4
   clear c4
   (first | skip)
   by_cases c6 : a0_0 > 65535
   ·rw [if_pos c6] at H
    have c6b0 : decide (65535 < a0_0) = true := decide_eq_true c6
    clear c6
    have H' := Aside0.mk H
    clear H
    have hcz7_0 : w3.cell? ⟨gb184, 0, none⟩ = some (.int .i64 a0_0) := (blk_cell BK184.out 0).trans rfl
    have hcz7_1 : w3.cell? ⟨gb184, 1, none⟩ = some (.bool a0_1) := (blk_cell BK184.out 1).trans rfl
    have hcz7_2 : w3.cell? ⟨gb184, 2, none⟩ = some (.int .u32 a0_2) := (blk_cell BK184.out 2).trans rfl
    have hcz7_3 : w3.cell? ⟨gb184, 3, none⟩ = some (.int .i64 a0_3) := (blk_cell BK184.out 3).trans rfl
    have hcz7_4 : w3.cell? ⟨gb184, 4, none⟩ = some (.int .i64 a0_4) := (blk_cell BK184.out 4).trans rfl
    have hcz7_5 : w3.cell? ⟨gb184, 5, none⟩ = some (.int .i64 a0_5) := (blk_cell BK184.out 5).trans rfl
    have hfz7_0 := blk_frozen BK184.out 0
    have hfz7_1 := blk_frozen BK184.out 1
    have hfz7_2 := blk_frozen BK184.out 2
    have hfz7_3 := blk_frozen BK184.out 3
    have hfz7_4 := blk_frozen BK184.out 4
    have hfz7_5 := blk_frozen BK184.out 5
    go_wp2
    go_meet
    case rel => exact ⟨_, (true), (by first | rfl), H', ⟨by first | omega⟩, ⟨by (with_reducible repeat (fail)); exact BK184.out⟩, ⟨by repeat (first | (with_reducible first | exact HB.out))⟩⟩
   ·rw [if_neg c6] at H
    have c6b0 : decide (65535 < a0_0) = false := decide_eq_false c6
    clear c6
    replace H := Option.bind_eq_some_iff.mp H
    obtain ⟨t185, A80, H⟩ := H
    replace H : (crossroadsref07_May.j0 k (!t185) a0_0 a0_1 a0_2 a0_3 a0_4 a0_5) = some r := H
    have A8 := Aside0.mk A80
    clear A80
    have H' := Aside0.mk H
    clear H
    have hcz9_0 : w3.cell? ⟨gb184, 0, none⟩ = some (.int .i64 a0_0) := (blk_cell BK184.out 0).trans rfl
    have hcz9_1 : w3.cell? ⟨gb184, 1, none⟩ = some (.bool a0_1) := (blk_cell BK184.out 1).trans rfl
    have hcz9_2 : w3.cell? ⟨gb184, 2, none⟩ = some (.int .u32 a0_2) := (blk_cell BK184.out 2).trans rfl
    have hcz9_3 : w3.cell? ⟨gb184, 3, none⟩ = some (.int .i64 a0_3) := (blk_cell BK184.out 3).trans rfl
    have hcz9_4 : w3.cell? ⟨gb184, 4, none⟩ = some (.int .i64 a0_4) := (blk_cell BK184.out 4).trans rfl
    have hcz9_5 : w3.cell? ⟨gb184, 5, none⟩ = some (.int .i64 a0_5) := (blk_cell BK184.out 5).trans rfl
    have hfz9_0 := blk_frozen BK184.out 0
    have hfz9_1 := blk_frozen BK184.out 1
    have hfz9_2 := blk_frozen BK184.out 2
    have hfz9_3 := blk_frozen BK184.out 3
    have hfz9_4 := blk_frozen BK184.out 4
    have hfz9_5 := blk_frozen BK184.out 5
    go_wp2_with (first | (go_at_call 38; (with_reducible refine (crossroadsref03_May.calls k a0_2 a0_3 t185 _ A8.out).mono ?_); rintro e w10 ⟨rfl, hb⟩; have n0_ := Aside0.mk (blk_below (g := gb184) (o := .cells #[.int .i64 a0_0, .bool a0_1, .int .u32 a0_2, .int .i64 a0_3, .int .i64 a0_4, .int .i64 a0_5] 34 (0, 0)) (by (with_reducible repeat (fail)); exact BK184.out) hb); have n1_ := Aside0.mk (below_step (by repeat (first | (with_reducible first | exact HB.out))) hb); clear BK184; clear HB; have BK184 := n0_; have HB := n1_; clear n0_ n1_; (try clear hb); (try clear hb2); (try clear hk); (try clear hi)))
    go_meet
    case rel => exact ⟨_, (!t185), (by first | rfl), H', ⟨by first | omega⟩, ⟨by (with_reducible repeat (fail)); exact BK184.out⟩, ⟨by repeat (first | (with_reducible first | exact HB.out))⟩⟩
 case rest =>
  clear HC2
  try clear c1
  try clear p2
  try clear c4
  try clear c4b0
  try clear c6
  try clear c6b0
  try clear hcz5_0
  try clear hcz5_1
  try clear hcz5_2
  try clear hcz5_3
  try clear hcz5_4
  try clear hcz5_5
  try clear hcz7_0
  try clear hcz7_1
  try clear hcz7_2
  try clear hcz7_3
  try clear hcz7_4
  try clear hcz7_5
  try clear hcz9_0
  try clear hcz9_1
  try clear hcz9_2
  try clear hcz9_3
  try clear hcz9_4
  try clear hcz9_5
  try clear hfz5_0
  try clear hfz5_1
  try clear hfz5_2
  try clear hfz5_3
  try clear hfz5_4
  try clear hfz5_5
  try clear hfz7_0
  try clear hfz7_1
  try clear hfz7_2
  try clear hfz7_3
  try clear hfz7_4
  try clear hfz7_5
  try clear hfz9_0
  try clear hfz9_1
  try clear hfz9_2
  try clear hfz9_3
  try clear hfz9_4
  try clear hfz9_5
  obtain ⟨kq, x16_1, rfl, HA, HJ1, BK184, HB⟩ := hcut
  cases kq with
  | zero => exact absurd HA.out (by simp [crossroadsref07_May.j0])
  | succ kj1 =>
   have H := HA.out
   clear HA
   simp only [crossroadsref07_May.j0] at H
   by_cases c11 : x16_1 = true
   ·subst c11
    have H1 : (some false) = some r := by rw [if_pos rfl] at H; exact H
    clear H
    have H := H1
    clear H1
    obtain rfl := Option.some.inj H
    go_wp2
    go_ret
    exact ⟨by first | rfl, by repeat (first | (with_reducible first | exact HB.out))⟩
   ·replace c11 := Bool.eq_false_iff.mpr c11
    subst c11
    have H1 : (if a0_4 = 0 then (if a0_5 = 0 then (some true) else (if a0_5 ≥ a0_4 then (if a0_5 ≥ a0_3 then (some (decide (a0_5 ≤ 32))) else (some false)) else (some false))) else (if a0_4 ≤ a0_3 then (some false) else (if a0_4 > 32 then (some false) else (if a0_5 = 0 then (some true) else (if a0_5 ≥ a0_4 then (if a0_5 ≥ a0_3 then (some (decide (a0_5 ≤ 32))) else (some false)) else (some false)))))) = some r := by rw [if_neg (show ¬ (false = true) by decide)] at H; exact H
    clear H
    have H := H1
    clear H1
    by_cases c12 : a0_4 = 0
    ·rw [if_pos c12] at H
     have c12b0 : (a0_4 == 0) = true := beq_iff_eq.mpr c12
     have c12b1 : (a0_4 != 0) = false := bne_eq_false_iff_eq.mpr c12
     clear c12
     by_cases c13 : a0_5 = 0
     ·rw [if_pos c13] at H
      have c13b0 : (a0_5 == 0) = true := beq_iff_eq.mpr c13
      have c13b1 : (a0_5 != 0) = false := bne_eq_false_iff_eq.mpr c13
      clear c13
      obtain rfl := Option.some.inj H
      have hcz14_0 : wc.cell? ⟨gb184, 0, none⟩ = some (.int .i64 a0_0) := (blk_cell BK184.out 0).trans rfl
      have hcz14_1 : wc.cell? ⟨gb184, 1, none⟩ = some (.bool a0_1) := (blk_cell BK184.out 1).trans rfl
      have hcz14_2 : wc.cell? ⟨gb184, 2, none⟩ = some (.int .u32 a0_2) := (blk_cell BK184.out 2).trans rfl
      have hcz14_3 : wc.cell? ⟨gb184, 3, none⟩ = some (.int .i64 a0_3) := (blk_cell BK184.out 3).trans rfl
      have hcz14_4 : wc.cell? ⟨gb184, 4, none⟩ = some (.int .i64 a0_4) := (blk_cell BK184.out 4).trans rfl
      have hcz14_5 : wc.cell? ⟨gb184, 5, none⟩ = some (.int .i64 a0_5) := (blk_cell BK184.out 5).trans rfl
      have hfz14_0 := blk_frozen BK184.out 0
      have hfz14_1 := blk_frozen BK184.out 1
      have hfz14_2 := blk_frozen BK184.out 2
      have hfz14_3 := blk_frozen BK184.out 3
      have hfz14_4 := blk_frozen BK184.out 4
      have hfz14_5 := blk_frozen BK184.out 5
      go_wp2
      go_ret
      exact ⟨by first | rfl, by repeat (first | (with_reducible first | exact HB.out))⟩
     ·rw [if_neg c13] at H
      have c13b0 : (a0_5 == 0) = false := beq_eq_false_iff_ne.mpr c13
      have c13b1 : (a0_5 != 0) = true := bne_iff_ne.mpr c13
      by_cases c15 : a0_5 ≥ a0_4
      ·rw [if_pos c15] at H
       have c15b0 : decide (a0_4 ≤ a0_5) = true := decide_eq_true c15
       clear c15
       by_cases c16 : a0_5 ≥ a0_3
       ·rw [if_pos c16] at H
        have c16b0 : decide (a0_3 ≤ a0_5) = true := decide_eq_true c16
        clear c16
        obtain rfl := Option.some.inj H
        have hcz17_0 : wc.cell? ⟨gb184, 0, none⟩ = some (.int .i64 a0_0) := (blk_cell BK184.out 0).trans rfl
        have hcz17_1 : wc.cell? ⟨gb184, 1, none⟩ = some (.bool a0_1) := (blk_cell BK184.out 1).trans rfl
        have hcz17_2 : wc.cell? ⟨gb184, 2, none⟩ = some (.int .u32 a0_2) := (blk_cell BK184.out 2).trans rfl
        have hcz17_3 : wc.cell? ⟨gb184, 3, none⟩ = some (.int .i64 a0_3) := (blk_cell BK184.out 3).trans rfl
        have hcz17_4 : wc.cell? ⟨gb184, 4, none⟩ = some (.int .i64 a0_4) := (blk_cell BK184.out 4).trans rfl
        have hcz17_5 : wc.cell? ⟨gb184, 5, none⟩ = some (.int .i64 a0_5) := (blk_cell BK184.out 5).trans rfl
        have hfz17_0 := blk_frozen BK184.out 0
        have hfz17_1 := blk_frozen BK184.out 1
        have hfz17_2 := blk_frozen BK184.out 2
        have hfz17_3 := blk_frozen BK184.out 3
        have hfz17_4 := blk_frozen BK184.out 4
        have hfz17_5 := blk_frozen BK184.out 5
        go_wp2
        go_ret
        exact ⟨by first | rfl, by repeat (first | (with_reducible first | exact HB.out))⟩
       ·rw [if_neg c16] at H
        have c16b0 : decide (a0_3 ≤ a0_5) = false := decide_eq_false c16
        clear c16
        obtain rfl := Option.some.inj H
        have hcz18_0 : wc.cell? ⟨gb184, 0, none⟩ = some (.int .i64 a0_0) := (blk_cell BK184.out 0).trans rfl
        have hcz18_1 : wc.cell? ⟨gb184, 1, none⟩ = some (.bool a0_1) := (blk_cell BK184.out 1).trans rfl
        have hcz18_2 : wc.cell? ⟨gb184, 2, none⟩ = some (.int .u32 a0_2) := (blk_cell BK184.out 2).trans rfl
        have hcz18_3 : wc.cell? ⟨gb184, 3, none⟩ = some (.int .i64 a0_3) := (blk_cell BK184.out 3).trans rfl
        have hcz18_4 : wc.cell? ⟨gb184, 4, none⟩ = some (.int .i64 a0_4) := (blk_cell BK184.out 4).trans rfl
        have hcz18_5 : wc.cell? ⟨gb184, 5, none⟩ = some (.int .i64 a0_5) := (blk_cell BK184.out 5).trans rfl
        have hfz18_0 := blk_frozen BK184.out 0
        have hfz18_1 := blk_frozen BK184.out 1
        have hfz18_2 := blk_frozen BK184.out 2
        have hfz18_3 := blk_frozen BK184.out 3
        have hfz18_4 := blk_frozen BK184.out 4
        have hfz18_5 := blk_frozen BK184.out 5
        go_wp2
        go_ret
        exact ⟨by first | rfl, by repeat (first | (with_reducible first | exact HB.out))⟩
      ·rw [if_neg c15] at H
       have c15b0 : decide (a0_4 ≤ a0_5) = false := decide_eq_false c15
       clear c15
       obtain rfl := Option.some.inj H
       have hcz19_0 : wc.cell? ⟨gb184, 0, none⟩ = some (.int .i64 a0_0) := (blk_cell BK184.out 0).trans rfl
       have hcz19_1 : wc.cell? ⟨gb184, 1, none⟩ = some (.bool a0_1) := (blk_cell BK184.out 1).trans rfl
       have hcz19_2 : wc.cell? ⟨gb184, 2, none⟩ = some (.int .u32 a0_2) := (blk_cell BK184.out 2).trans rfl
       have hcz19_3 : wc.cell? ⟨gb184, 3, none⟩ = some (.int .i64 a0_3) := (blk_cell BK184.out 3).trans rfl
       have hcz19_4 : wc.cell? ⟨gb184, 4, none⟩ = some (.int .i64 a0_4) := (blk_cell BK184.out 4).trans rfl
       have hcz19_5 : wc.cell? ⟨gb184, 5, none⟩ = some (.int .i64 a0_5) := (blk_cell BK184.out 5).trans rfl
       have hfz19_0 := blk_frozen BK184.out 0
       have hfz19_1 := blk_frozen BK184.out 1
       have hfz19_2 := blk_frozen BK184.out 2
       have hfz19_3 := blk_frozen BK184.out 3
       have hfz19_4 := blk_frozen BK184.out 4
       have hfz19_5 := blk_frozen BK184.out 5
       go_wp2
       go_ret
       exact ⟨by first | rfl, by repeat (first | (with_reducible first | exact HB.out))⟩
    ·rw [if_neg c12] at H
     have c12b0 : (a0_4 == 0) = false := beq_eq_false_iff_ne.mpr c12
     have c12b1 : (a0_4 != 0) = true := bne_iff_ne.mpr c12
     by_cases c20 : a0_4 ≤ a0_3
     ·rw [if_pos c20] at H
      have c20b0 : decide (a0_4 ≤ a0_3) = true := decide_eq_true c20
      clear c20
      obtain rfl := Option.some.inj H
      have hcz21_0 : wc.cell? ⟨gb184, 0, none⟩ = some (.int .i64 a0_0) := (blk_cell BK184.out 0).trans rfl
      have hcz21_1 : wc.cell? ⟨gb184, 1, none⟩ = some (.bool a0_1) := (blk_cell BK184.out 1).trans rfl
      have hcz21_2 : wc.cell? ⟨gb184, 2, none⟩ = some (.int .u32 a0_2) := (blk_cell BK184.out 2).trans rfl
      have hcz21_3 : wc.cell? ⟨gb184, 3, none⟩ = some (.int .i64 a0_3) := (blk_cell BK184.out 3).trans rfl
      have hcz21_4 : wc.cell? ⟨gb184, 4, none⟩ = some (.int .i64 a0_4) := (blk_cell BK184.out 4).trans rfl
      have hcz21_5 : wc.cell? ⟨gb184, 5, none⟩ = some (.int .i64 a0_5) := (blk_cell BK184.out 5).trans rfl
      have hfz21_0 := blk_frozen BK184.out 0
      have hfz21_1 := blk_frozen BK184.out 1
      have hfz21_2 := blk_frozen BK184.out 2
      have hfz21_3 := blk_frozen BK184.out 3
      have hfz21_4 := blk_frozen BK184.out 4
      have hfz21_5 := blk_frozen BK184.out 5
      go_wp2
      go_ret
      exact ⟨by first | rfl, by repeat (first | (with_reducible first | exact HB.out))⟩
     ·rw [if_neg c20] at H
      have c20b0 : decide (a0_4 ≤ a0_3) = false := decide_eq_false c20
      clear c20
      by_cases c22 : a0_4 > 32
      ·rw [if_pos c22] at H
       have c22b0 : decide (32 < a0_4) = true := decide_eq_true c22
       clear c22
       obtain rfl := Option.some.inj H
       have hcz23_0 : wc.cell? ⟨gb184, 0, none⟩ = some (.int .i64 a0_0) := (blk_cell BK184.out 0).trans rfl
       have hcz23_1 : wc.cell? ⟨gb184, 1, none⟩ = some (.bool a0_1) := (blk_cell BK184.out 1).trans rfl
       have hcz23_2 : wc.cell? ⟨gb184, 2, none⟩ = some (.int .u32 a0_2) := (blk_cell BK184.out 2).trans rfl
       have hcz23_3 : wc.cell? ⟨gb184, 3, none⟩ = some (.int .i64 a0_3) := (blk_cell BK184.out 3).trans rfl
       have hcz23_4 : wc.cell? ⟨gb184, 4, none⟩ = some (.int .i64 a0_4) := (blk_cell BK184.out 4).trans rfl
       have hcz23_5 : wc.cell? ⟨gb184, 5, none⟩ = some (.int .i64 a0_5) := (blk_cell BK184.out 5).trans rfl
       have hfz23_0 := blk_frozen BK184.out 0
       have hfz23_1 := blk_frozen BK184.out 1
       have hfz23_2 := blk_frozen BK184.out 2
       have hfz23_3 := blk_frozen BK184.out 3
       have hfz23_4 := blk_frozen BK184.out 4
       have hfz23_5 := blk_frozen BK184.out 5
       go_wp2
       go_ret
       exact ⟨by first | rfl, by repeat (first | (with_reducible first | exact HB.out))⟩
      ·rw [if_neg c22] at H
       have c22b0 : decide (32 < a0_4) = false := decide_eq_false c22
       clear c22
       by_cases c24 : a0_5 = 0
       ·rw [if_pos c24] at H
        have c24b0 : (a0_5 == 0) = true := beq_iff_eq.mpr c24
        have c24b1 : (a0_5 != 0) = false := bne_eq_false_iff_eq.mpr c24
        clear c24
        obtain rfl := Option.some.inj H
        have hcz25_0 : wc.cell? ⟨gb184, 0, none⟩ = some (.int .i64 a0_0) := (blk_cell BK184.out 0).trans rfl
        have hcz25_1 : wc.cell? ⟨gb184, 1, none⟩ = some (.bool a0_1) := (blk_cell BK184.out 1).trans rfl
        have hcz25_2 : wc.cell? ⟨gb184, 2, none⟩ = some (.int .u32 a0_2) := (blk_cell BK184.out 2).trans rfl
        have hcz25_3 : wc.cell? ⟨gb184, 3, none⟩ = some (.int .i64 a0_3) := (blk_cell BK184.out 3).trans rfl
        have hcz25_4 : wc.cell? ⟨gb184, 4, none⟩ = some (.int .i64 a0_4) := (blk_cell BK184.out 4).trans rfl
        have hcz25_5 : wc.cell? ⟨gb184, 5, none⟩ = some (.int .i64 a0_5) := (blk_cell BK184.out 5).trans rfl
        have hfz25_0 := blk_frozen BK184.out 0
        have hfz25_1 := blk_frozen BK184.out 1
        have hfz25_2 := blk_frozen BK184.out 2
        have hfz25_3 := blk_frozen BK184.out 3
        have hfz25_4 := blk_frozen BK184.out 4
        have hfz25_5 := blk_frozen BK184.out 5
        go_wp2
        go_ret
        exact ⟨by first | rfl, by repeat (first | (with_reducible first | exact HB.out))⟩
       ·rw [if_neg c24] at H
        have c24b0 : (a0_5 == 0) = false := beq_eq_false_iff_ne.mpr c24
        have c24b1 : (a0_5 != 0) = true := bne_iff_ne.mpr c24
        by_cases c26 : a0_5 ≥ a0_4
        ·rw [if_pos c26] at H
         have c26b0 : decide (a0_4 ≤ a0_5) = true := decide_eq_true c26
         clear c26
         by_cases c27 : a0_5 ≥ a0_3
         ·rw [if_pos c27] at H
          have c27b0 : decide (a0_3 ≤ a0_5) = true := decide_eq_true c27
          clear c27
          obtain rfl := Option.some.inj H
          have hcz28_0 : wc.cell? ⟨gb184, 0, none⟩ = some (.int .i64 a0_0) := (blk_cell BK184.out 0).trans rfl
          have hcz28_1 : wc.cell? ⟨gb184, 1, none⟩ = some (.bool a0_1) := (blk_cell BK184.out 1).trans rfl
          have hcz28_2 : wc.cell? ⟨gb184, 2, none⟩ = some (.int .u32 a0_2) := (blk_cell BK184.out 2).trans rfl
          have hcz28_3 : wc.cell? ⟨gb184, 3, none⟩ = some (.int .i64 a0_3) := (blk_cell BK184.out 3).trans rfl
          have hcz28_4 : wc.cell? ⟨gb184, 4, none⟩ = some (.int .i64 a0_4) := (blk_cell BK184.out 4).trans rfl
          have hcz28_5 : wc.cell? ⟨gb184, 5, none⟩ = some (.int .i64 a0_5) := (blk_cell BK184.out 5).trans rfl
          have hfz28_0 := blk_frozen BK184.out 0
          have hfz28_1 := blk_frozen BK184.out 1
          have hfz28_2 := blk_frozen BK184.out 2
          have hfz28_3 := blk_frozen BK184.out 3
          have hfz28_4 := blk_frozen BK184.out 4
          have hfz28_5 := blk_frozen BK184.out 5
          go_wp2
          go_ret
          exact ⟨by first | rfl, by repeat (first | (with_reducible first | exact HB.out))⟩
         ·rw [if_neg c27] at H
          have c27b0 : decide (a0_3 ≤ a0_5) = false := decide_eq_false c27
          clear c27
          obtain rfl := Option.some.inj H
          have hcz29_0 : wc.cell? ⟨gb184, 0, none⟩ = some (.int .i64 a0_0) := (blk_cell BK184.out 0).trans rfl
          have hcz29_1 : wc.cell? ⟨gb184, 1, none⟩ = some (.bool a0_1) := (blk_cell BK184.out 1).trans rfl
          have hcz29_2 : wc.cell? ⟨gb184, 2, none⟩ = some (.int .u32 a0_2) := (blk_cell BK184.out 2).trans rfl
          have hcz29_3 : wc.cell? ⟨gb184, 3, none⟩ = some (.int .i64 a0_3) := (blk_cell BK184.out 3).trans rfl
          have hcz29_4 : wc.cell? ⟨gb184, 4, none⟩ = some (.int .i64 a0_4) := (blk_cell BK184.out 4).trans rfl
          have hcz29_5 : wc.cell? ⟨gb184, 5, none⟩ = some (.int .i64 a0_5) := (blk_cell BK184.out 5).trans rfl
          have hfz29_0 := blk_frozen BK184.out 0
          have hfz29_1 := blk_frozen BK184.out 1
          have hfz29_2 := blk_frozen BK184.out 2
          have hfz29_3 := blk_frozen BK184.out 3
          have hfz29_4 := blk_frozen BK184.out 4
          have hfz29_5 := blk_frozen BK184.out 5
          go_wp2
          go_ret
          exact ⟨by first | rfl, by repeat (first | (with_reducible first | exact HB.out))⟩
        ·rw [if_neg c26] at H
         have c26b0 : decide (a0_4 ≤ a0_5) = false := decide_eq_false c26
         clear c26
         obtain rfl := Option.some.inj H
         have hcz30_0 : wc.cell? ⟨gb184, 0, none⟩ = some (.int .i64 a0_0) := (blk_cell BK184.out 0).trans rfl
         have hcz30_1 : wc.cell? ⟨gb184, 1, none⟩ = some (.bool a0_1) := (blk_cell BK184.out 1).trans rfl
         have hcz30_2 : wc.cell? ⟨gb184, 2, none⟩ = some (.int .u32 a0_2) := (blk_cell BK184.out 2).trans rfl
         have hcz30_3 : wc.cell? ⟨gb184, 3, none⟩ = some (.int .i64 a0_3) := (blk_cell BK184.out 3).trans rfl
         have hcz30_4 : wc.cell? ⟨gb184, 4, none⟩ = some (.int .i64 a0_4) := (blk_cell BK184.out 4).trans rfl
         have hcz30_5 : wc.cell? ⟨gb184, 5, none⟩ = some (.int .i64 a0_5) := (blk_cell BK184.out 5).trans rfl
         have hfz30_0 := blk_frozen BK184.out 0
         have hfz30_1 := blk_frozen BK184.out 1
         have hfz30_2 := blk_frozen BK184.out 2
         have hfz30_3 := blk_frozen BK184.out 3
         have hfz30_4 := blk_frozen BK184.out 4
         have hfz30_5 := blk_frozen BK184.out 5
         go_wp2
         go_ret
         exact ⟨by first | rfl, by repeat (first | (with_reducible first | exact HB.out))⟩
end Go.Proofs.YthngpkfckhmiiaaGreatDoor.X
end
