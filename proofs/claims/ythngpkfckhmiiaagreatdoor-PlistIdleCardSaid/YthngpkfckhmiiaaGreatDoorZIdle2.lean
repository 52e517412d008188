/- Parts of the proof: GivenD, GC1, GC2, GC3, GC4, GC5a, GC5b, GC6. -/
import Derived.Test.YthngpkfckhmiiaaGreatDoorZIdle1
import Derived.Outline
import Derived.Handy
import Derived.BigRegion
import Derived.RegionTactic
import Derived.Deep.RegionHeld3
section
set_option linter.unusedVariables false
set_option linter.unusedSimpArgs false
namespace Go.Proofs.YthngpkfckhmiiaaGreatDoor.X
open Go.RowKit Go.Proofs.YthngpkfckhmiiaaGreatDoorW.PrintWords Go.Proofs.YthngpkfckhmiiaaGreatDoor.Sl
instance : Inhabited S26 := ⟨z26⟩
def enc26 (x : S26) : List Value := [.int .i64 x.f0, .bool x.f1, .int .u32 x.f2.f0, .int .i64 x.f2.f1, .int .i64 x.f3, .int .i64 x.f4]
theorem enc26_len (x : S26) : (enc26 x).length = 6 := rfl
theorem enc26_one (x : S26) : ∀ u ∈ enc26 x, u.oneCell' = true := by
  intro u hu
  simp only [enc26, List.mem_cons, List.not_mem_nil, or_false] at hu
  rcases hu with rfl | rfl | rfl | rfl | rfl | rfl <;> rfl
theorem enc26_K (w : World) (x : S26) (cs : List Value) (h : k26.K w x cs) : cs = enc26 x := k26_open h
theorem enc26_M (w : World) (base : Nat) (ok : Nat → Prop) (x : S26) : k26.M w base ok x (enc26 x) := k26_mkM w base ok x
theorem enters52 : ∀ args w, (callFunc 52 args).run Tryz.prog w = .ok (.enter 52 args) w := enters_of Tryz.func52 (by kernel_rfl) rfl
theorem enters55 : ∀ args w, (callFunc 55 args).run Tryz.prog w = .ok (.enter 55 args) w := enters_of Tryz.func55 (by kernel_rfl) rfl
theorem enters49 : ∀ args w, (callFunc 49 args).run Tryz.prog w = .ok (.enter 49 args) w := enters_of Tryz.func49 (by kernel_rfl) rfl
def plist_Drop.f (l0 : List S26) (a1 : Int) : Option (List S26 × Int) :=
  if l0.length ≤ 1000000 then (match l0.findIdx? (fun x => x.f0 == a1) with | none => some ([], 6) | some i => some (l0.eraseIdx i, 0)) else none
def means1 (x : S26) (A N : Int) : Option Bool := plist_Means.f 1 x.f0 x.f1 x.f2.f0 x.f2.f1 x.f3 x.f4 A N
def plist_Eval.f (l0 : List S26) (a1_0 a1_1 : Int) : Option (Bool × Int) :=
  if l0.length ≤ 1000000 ∧ l0.all (fun x => (means1 x a1_0 a1_1).isSome) = true then
    (match l0.find? (fun x => (means1 x a1_0 a1_1).getD false) with | none => some (false, 0) | some x => some (x.f1, x.f0)) else none
def hides1 (x y : S26) : Option Bool := plist_Rule_hides.f 1 x.f0 x.f1 x.f2.f0 x.f2.f1 x.f3 x.f4 y.f0 y.f1 y.f2.f0 y.f2.f1 y.f3 y.f4
def idles (l : List S26) : List Int := (List.range l.length).filterMap fun i => if (l.take i).any (fun x => (hides1 x l[i]!).getD false) then some l[i]!.f0 else none
def plist_Idle.f (l0 : List S26) : Option (List Int) :=
  if l0.length ≤ 1000000 ∧ l0.all (fun x => l0.all fun y => (hides1 x y).isSome) = true then some (idles l0) else none
def geW : ByteArray := ⟨#[103, 101]⟩
def leW : ByteArray := ⟨#[108, 101]⟩
def num (s : ByteArray) : Int := (plist_number.f s).getD 0
def limOut (l : List ByteArray) : Bool × Int × Int := match l with
  | x :: n :: r => if x = geW then (if num n = 0 then (false, 0, 0) else match r with
        | y :: n2 :: r2 => if y = leW then (if num n2 = 0 then (false, num n, 0) else (decide (r2 = []), num n, num n2)) else (false, num n, 0)
        | r => (decide (r = []), num n, 0))
      else if x = leW then (if num n = 0 then (false, 0, 0) else (decide (r = []), 0, num n)) else (false, 0, 0)
  | l => (decide (l = []), 0, 0)
def limits (l : List ByteArray) : Option (Int × Int) := if (limOut l).1 = true then some (limOut l).2 else none
def permitW : ByteArray := ⟨#[112, 101, 114, 109, 105, 116]⟩
def denyW : ByteArray := ⟨#[100, 101, 110, 121]⟩
def plist_Parse.g (k : Nat) (a0 : ByteArray) : Option (Int × Bool × Int × Int × Int × Int × Int) :=
  (strings_Split.f a0 ⟨#[32]⟩).bind fun l => match l with
    | s0 :: s1 :: s2 :: r => (plist_number.f s0).bind fun n => if n = 0 then some (0, false, 0, 0, 0, 0, 3)
        else if s1 ≠ permitW ∧ s1 ≠ denyW then some (0, false, 0, 0, 0, 0, 3)
        else (addr_Parse.f k s2).bind fun p => if p.2.2 = 3 then some (0, false, 0, 0, 0, 0, 3)
          else if (r.all fun s => (plist_number.f s).isSome) = false then none
          else match limits r with
            | none => some (0, false, 0, 0, 0, 0, 3)
            | some (ge, le) => if p.2.2 ≠ 0 then some (0, false, 0, 0, 0, 0, 1)
              else (plist_May.f n (decide (s1 = permitW)) p.1 p.2.1 ge le).bind fun ok => if ok = false then some (0, false, 0, 0, 0, 0, 1) else some (n, decide (s1 = permitW), p.1, p.2.1, ge, le, 0)
    | _ => some (0, false, 0, 0, 0, 0, 3)
def plist_Parse.f (a0 : ByteArray) : Option (Int × Bool × Int × Int × Int × Int × Int) := plist_Parse.g 100 a0
end Go.Proofs.YthngpkfckhmiiaaGreatDoor.X
end
section
set_option linter.unusedVariables false
set_option linter.unusedSimpArgs false
namespace Go.Proofs.YthngpkfckhmiiaaGreatDoor.X
open Go.RowKit Go.Proofs.YthngpkfckhmiiaaGreatDoorW.PrintWords Go.Proofs.YthngpkfckhmiiaaGreatDoor.Sl
theorem clo_drop (x : S26) (g : Nat) (seq : Int) (W : World) (hg : W.cell? ⟨g, 0, none⟩ = some (.int .i64 seq)) :
    Calls Tryz.prog 52 #[.agg #[.int .i64 x.f0, .bool x.f1, .int .u32 x.f2.f0, .int .i64 x.f2.f1, .int .i64 x.f3, .int .i64 x.f4], .pointer (some ⟨g, 0, none⟩)] W fun e w' => e = .returned (.bool (x.f0 == seq)) ∧ Below W.heap.size W w' := by
  have hlt := World.block_lt_of_cell? W _ hg
  have hne : g ≠ W.heap.size := Nat.ne_of_lt hlt
  go_enter Tryz.func52, Tryz.ntmps52
  go_wp2
  go_ret
  exact ⟨rfl, (Below.refl _ _).alloc (Nat.le_refl _) _⟩
theorem clo_eval (x : S26) (g : Nat) (A N : Int) (W : World) (r : Bool) (hg0 : W.cell? ⟨g, 0, none⟩ = some (.int .u32 A)) (hg1 : W.cell? ⟨g, 1, none⟩ = some (.int .i64 N)) (hr : means1 x A N = some r) :
    Calls Tryz.prog 55 #[.agg #[.int .i64 x.f0, .bool x.f1, .int .u32 x.f2.f0, .int .i64 x.f2.f1, .int .i64 x.f3, .int .i64 x.f4], .pointer (some ⟨g, 0, none⟩)] W fun e w' => e = .returned (.bool r) ∧ Below W.heap.size W w' := by
  have hlt := World.block_lt_of_cell? W _ hg0
  have hne : g ≠ W.heap.size := Nat.ne_of_lt hlt
  have hc := fun W => plist_Means.calls 1 x.f0 x.f1 x.f2.f0 x.f2.f1 x.f3 x.f4 A N r W hr
  clear hr
  go_enter Tryz.func55, Tryz.ntmps55
  go_wp2_with (go_at_call 14; refine (hc _).mono ?_; rintro e w' ⟨rfl, hb⟩)
  go_ret
  exact ⟨rfl, ((Below.refl _ _).alloc (Nat.le_refl _) _).trans (hb.mono (by simp))⟩
theorem clo_idle (x y : S26) (g : Nat) (W : World) (r : Bool) (hg : ∀ j v, (enc26 y)[j]? = some v → W.cell? ⟨g, j, none⟩ = some v) (hr : hides1 x y = some r) :
    Calls Tryz.prog 49 #[.agg #[.int .i64 x.f0, .bool x.f1, .int .u32 x.f2.f0, .int .i64 x.f2.f1, .int .i64 x.f3, .int .i64 x.f4], .pointer (some ⟨g, 0, none⟩)] W fun e w' => e = .returned (.bool r) ∧ Below W.heap.size W w' := by
  have h0 := hg 0 _ rfl
  have h1 := hg 1 _ rfl
  have h2 := hg 2 _ rfl
  have h3 := hg 3 _ rfl
  have h4 := hg 4 _ rfl
  have h5 := hg 5 _ rfl
  clear hg
  have hlt := World.block_lt_of_cell? W _ h0
  have hne : g ≠ W.heap.size := Nat.ne_of_lt hlt
  have hc := fun W => plist_Rule_hides.calls 1 x.f0 x.f1 x.f2.f0 x.f2.f1 x.f3 x.f4 y.f0 y.f1 y.f2.f0 y.f2.f1 y.f3 y.f4 r W hr
  clear hr
  go_enter Tryz.func49, Tryz.ntmps49
  go_wp2_with (go_at_call 50; refine (hc _).mono ?_; rintro e w' ⟨rfl, hb⟩)
  go_ret
  exact ⟨rfl, ((Below.refl _ _).alloc (Nat.le_refl _) _).trans (hb.mono (by simp))⟩
theorem list_cells {w : World} {A : Option Addr} {l : List S26} (h : Kd.C k26 w A l.length l) (hn : 0 < l.length) :
    ∃ b off, A = some ⟨b, off, none⟩ ∧ b < w.heap.size ∧ ∀ j, j < l.length → ∀ i v, (enc26 l[j]!)[i]? = some v → w.cell? ⟨b, off + j * 6 + i, none⟩ = some v := by
  obtain ⟨b, off, rfl, hb, hc⟩ := C_split (d := k26) (by decide) h hn
  exact ⟨b, off, rfl, hb, C_cells (d := k26) enc26 enc26_K hc⟩
theorem cells_below {w w' : World} {b off : Nat} {l : List S26} (hw : b < w.heap.size) (hb : Below w.heap.size w w') (h : ∀ j, j < l.length → ∀ i v, (enc26 l[j]!)[i]? = some v → w.cell? ⟨b, off + j * 6 + i, none⟩ = some v) :
    ∀ j, j < l.length → ∀ i v, (enc26 l[j]!)[i]? = some v → w'.cell? ⟨b, off + j * 6 + i, none⟩ = some v := fun j hj i v hv => (hb.cell (p := ⟨b, off + j * 6 + i, none⟩) hw).trans (h j hj i v hv)
theorem drop_index (A : Option Addr) (c : Nat) (l : List S26) (seq : Int) (w W : World) (g : Nat) (hr : Kd.C k26 w A l.length l) (hbW : Below w.heap.size w W) (hn : l.length ≤ 1000000) (hg : W.cell? ⟨g, 0, none⟩ = some (.int .i64 seq)) :
    Calls Tryz.prog 51 #[.slice A l.length c, .func (.func 52) #[] #[.pointer (some ⟨g, 0, none⟩)]] W fun e w' => e = .returned (.int .i64 (fidx (fun x : S26 => x.f0 == seq) l)) ∧ Below W.heap.size W w' := by
  rcases Nat.eq_zero_or_pos l.length with h0 | h0
  · obtain rfl : l = [] := List.eq_nil_of_length_eq_zero h0
    exact Sl.R.index_none A c _ W
  · obtain ⟨b, off, rfl, hb, hc⟩ := list_cells hr h0
    refine Sl.R.index_func enc26 enc26_len (fun x : S26 => x.f0 == seq) 52 _ enters52 b off l.length c l W (fun W' x _ hb' => ?_) rfl hn (Nat.lt_of_lt_of_le hb hbW.size) (cells_below hb hbW hc)
    have := clo_drop x g seq W' ((hb'.cell (p := ⟨g, 0, none⟩) (World.block_lt_of_cell? W _ hg)).trans hg)
    exact this.mono fun e w' ⟨h1, h2⟩ => ⟨h1, hb'.trans (h2.mono hb'.size)⟩
theorem list_clone (A : Option Addr) (c : Nat) (l : List S26) (w W : World) (hr : Kd.C k26 w A l.length l) (hbW : Below w.heap.size w W) (hn : l.length ≤ 1000000) :
    Calls Tryz.prog 54 #[.slice A l.length c] W fun e w' => ∃ v, e = .returned v ∧ w'.ownsRow W.heap.size 26 6 v l.length (l.flatMap enc26) ∧ Below W.heap.size W w' := by
  rcases Nat.eq_zero_or_pos l.length with h0 | h0
  · obtain rfl : l = [] := List.eq_nil_of_length_eq_zero h0
    cases A with
    | none => exact (Sl.R.clone_nil c W).mono fun e w' ⟨h1, h2⟩ => ⟨_, h1, by subst h2; exact World.ownsRow_nil _ _ _ _, by subst h2; exact Below.refl _ _⟩
    | some a => exact Sl.R.clone_some a 0 c [] W rfl (fun j u hu => by simp at hu) (fun u hu => by simp at hu) (by simp) (fun j u hu => by simp at hu)
  · obtain ⟨b, off, rfl, hb, hc⟩ := list_cells hr h0
    have hb' : b < W.heap.size := Nat.lt_of_lt_of_le hb hbW.size
    refine Sl.R.clone_some ⟨b, off, none⟩ l.length c (l.flatMap enc26) W (flat_len enc26 enc26_len l) (fun j u hu => ?_) (flat_mem enc26 enc26_one l) hn (fun j u hu => by rw [Addr.add_lit]; exact hb')
    rw [Addr.add_lit]
    exact flat_at enc26 enc26_len l (cells_below hb hbW hc) j u hu
theorem fidx_nat {α : Type} (p : α → Bool) (l : List α) (i : Nat) (h : l.findIdx? p = some i) : fidx p l = (i : Int) := by simp [fidx, h]
theorem fidx_no {α : Type} (p : α → Bool) (l : List α) (h : l.findIdx? p = none) : fidx p l = -1 := by simp [fidx, h]
theorem drop_none (A : Option Addr) (c : Nat) (l : List S26) (seq : Int) (w : World) (hr : Kd.C k26 w A l.length l) (hn : l.length ≤ 1000000) (hf : l.findIdx? (fun x => x.f0 == seq) = none) :
    Calls Tryz.prog 21 #[.slice A l.length c, .int .i64 seq] w fun e w' => e = .returned (.tuple #[.slice none 0 0, .int .i64 6]) ∧ Below w.heap.size w w' := by
  have hb0 : Below w.heap.size w (w.alloc (.cells #[.int .i64 seq] 3)) := (Below.refl _ _).alloc (Nat.le_refl _) _
  have hI := drop_index A c l seq w _ w.heap.size hr hb0 hn ((World.cell?_alloc_at #[.int .i64 seq] 3 w.heap.size 0 rfl).trans rfl)
  rw [fidx_no _ _ hf] at hI
  clear hr hn hf
  generalize l.length = n at hI ⊢
  go_enter Tryz.func21, Tryz.ntmps21
  go_wp2_with (go_at_call 51; refine hI.mono ?_; rintro e w' ⟨rfl, hb⟩)
  go_ret2
  exact ⟨rfl, hb0.trans (hb.mono (by simp))⟩
set_option maxHeartbeats 1000000 in
set_option maxRecDepth 100000 in
theorem drop_some (A : Option Addr) (c i : Nat) (l : List S26) (seq : Int) (w : World) (hr : Kd.C k26 w A l.length l) (hn : l.length ≤ 1000000) (hf : l.findIdx? (fun x => x.f0 == seq) = some i) :
    Calls Tryz.prog 21 #[.slice A l.length c, .int .i64 seq] w fun e w' => ∃ v, e = .returned (.tuple #[v, .int .i64 0]) ∧ w'.ownsRow w.heap.size 26 6 v (l.length - 1) ((l.eraseIdx i).flatMap enc26) ∧ Below w.heap.size w w' := by
  have hb0 : Below w.heap.size w (w.alloc (.cells #[.int .i64 seq] 3)) := (Below.refl _ _).alloc (Nat.le_refl _) _
  have hI := drop_index A c l seq w _ w.heap.size hr hb0 hn ((World.cell?_alloc_at #[.int .i64 seq] 3 w.heap.size 0 rfl).trans rfl)
  rw [fidx_nat _ _ i hf] at hI
  have hil : i < l.length := (List.findIdx?_eq_some_iff_getElem.1 hf).1
  have hC := fun W hb => list_clone A c l w W hr hb hn
  have hD := fun v W (HO : World.ownsRow W _ 26 6 v l.length (l.flatMap enc26)) => Sl.R.delete v l.length i (l.flatMap enc26) w.heap.size W HO hil hn (flat_mem enc26 enc26_one l)
  have e1 : (l.flatMap enc26).take (i * 6) ++ (l.flatMap enc26).drop ((i + 1) * 6) = (l.eraseIdx i).flatMap enc26 := by
    rw [flat_take enc26 enc26_len, flat_drop enc26 enc26_len, List.eraseIdx_eq_take_drop_succ, List.flatMap_append]
  rw [e1] at hD
  clear e1
  have hneg : decide ((i : Int) < 0) = false := by simp
  clear hr hf
  generalize l.length = n at hI hC hD hil hn ⊢
  generalize (l.eraseIdx i).flatMap enc26 = ys at hD ⊢
  have HC := Aside0.mk hC
  have HD := Aside0.mk hD
  clear hC hD
  go_enter Tryz.func21, Tryz.ntmps21
  go_wp2_with (first
    | (go_at_call 51; refine hI.mono ?_; rintro e w1 ⟨rfl, hb⟩; have hb1 : Below w.heap.size w w1 := hb0.trans (hb.mono (by simp)); clear hb hb0 hI)
    | (go_at_call 54; refine (HC.out _ hb1).mono ?_; rintro e w2 ⟨v, rfl, hown, hb2⟩)
    | (go_at_call 53; refine (HD.out v _ (own_weaken hown hb1.size)).mono ?_; rintro e w3 ⟨v', rfl, hown3, hg3, hat3⟩))
  go_ret2
  refine ⟨v', rfl, hown3, ?_⟩
  exact (hb1.trans (hb2.mono hb1.size)).grown hg3 (Nat.le_trans hb1.size hb2.size) (fun k hk => Nat.le_trans hb1.size (own_base hown k hk))
theorem plist_Drop.calls' (A0 : Option Addr) (c0 : Nat) (l0 : List S26) (a1 : Int) (r0 : List S26) (r1 : Int) (w : World) (hr0 : Kd.C k26 w A0 l0.length l0) (hc0 : l0.length ≤ c0) (h : plist_Drop.f l0 a1 = some (r0, r1)) :
    Calls Tryz.prog 21 #[.slice A0 l0.length c0, .int .i64 a1] w fun e w' => ∃ v0_ : Value, e = .returned (.tuple #[v0_, .int .i64 r1]) ∧ Kd.R k26 26 w' w.heap.size (fun _ => True) v0_ r0 ∧ Below w.heap.size w w' := by
  unfold plist_Drop.f at h
  split at h
  · rename_i hn
    split at h
    · rename_i hf
      simp only [Option.some.injEq, Prod.mk.injEq] at h
      obtain ⟨rfl, rfl⟩ := h
      exact (drop_none A0 c0 l0 a1 w hr0 hn hf).mono fun e w' ⟨h1, h2⟩ => ⟨_, h1, Kd.R_nil _ _ _ _ _, h2⟩
    · rename_i i hf
      simp only [Option.some.injEq, Prod.mk.injEq] at h
      obtain ⟨rfl, rfl⟩ := h
      have hil : i < l0.length := (List.findIdx?_eq_some_iff_getElem.1 hf).1
      refine (drop_some A0 c0 i l0 a1 w hr0 hn hf).mono fun e w' ⟨v, h1, h2, h3⟩ => ⟨v, h1, R_flat enc26 enc26_len enc26_M ?_, h3⟩
      rw [List.length_eraseIdx, if_pos hil]
      exact h2
  · cases h
theorem eval_index (A : Option Addr) (c : Nat) (l : List S26) (qA qN : Int) (w W : World) (g : Nat) (hr : Kd.C k26 w A l.length l) (hbW : Below w.heap.size w W) (hn : l.length ≤ 1000000) (ht : l.all (fun x => (means1 x qA qN).isSome) = true)
    (hg0 : W.cell? ⟨g, 0, none⟩ = some (.int .u32 qA)) (hg1 : W.cell? ⟨g, 1, none⟩ = some (.int .i64 qN)) :
    Calls Tryz.prog 51 #[.slice A l.length c, .func (.func 55) #[] #[.pointer (some ⟨g, 0, none⟩)]] W fun e w' => e = .returned (.int .i64 (fidx (fun x : S26 => (means1 x qA qN).getD false) l)) ∧ Below W.heap.size W w' := by
  rcases Nat.eq_zero_or_pos l.length with h0 | h0
  · obtain rfl : l = [] := List.eq_nil_of_length_eq_zero h0
    exact Sl.R.index_none A c _ W
  · obtain ⟨b, off, rfl, hb, hc⟩ := list_cells hr h0
    refine Sl.R.index_func enc26 enc26_len (fun x : S26 => (means1 x qA qN).getD false) 55 _ enters55 b off l.length c l W (fun W' x hx hb' => ?_) rfl hn (Nat.lt_of_lt_of_le hb hbW.size) (cells_below hb hbW hc)
    have hs := List.all_eq_true.1 ht x hx
    obtain ⟨r, hr'⟩ := Option.isSome_iff_exists.1 hs
    have := clo_eval x g qA qN W' r ((hb'.cell (p := ⟨g, 0, none⟩) (World.block_lt_of_cell? W _ hg0)).trans hg0) ((hb'.cell (p := ⟨g, 1, none⟩) (World.block_lt_of_cell? W _ hg1)).trans hg1) hr'
    exact this.mono fun e w' ⟨h1, h2⟩ => ⟨by rw [h1]; simp [hr'], hb'.trans (h2.mono hb'.size)⟩
theorem eval_none (A : Option Addr) (c : Nat) (l : List S26) (qA qN : Int) (w : World) (hr : Kd.C k26 w A l.length l) (hn : l.length ≤ 1000000) (ht : l.all (fun x => (means1 x qA qN).isSome) = true) (hf : l.findIdx? (fun x => (means1 x qA qN).getD false) = none) :
    Calls Tryz.prog 22 #[.slice A l.length c, .agg #[.int .u32 qA, .int .i64 qN]] w fun e w' => e = .returned (.tuple #[.bool false, .int .i64 0]) ∧ Below w.heap.size w w' := by
  have hb0 : Below w.heap.size w (w.alloc (.cells #[.int .u32 qA, .int .i64 qN] 24)) := (Below.refl _ _).alloc (Nat.le_refl _) _
  have hI := eval_index A c l qA qN w _ w.heap.size hr hb0 hn ht ((World.cell?_alloc_at #[.int .u32 qA, .int .i64 qN] 24 w.heap.size 0 rfl).trans rfl) ((World.cell?_alloc_at #[.int .u32 qA, .int .i64 qN] 24 w.heap.size 1 rfl).trans rfl)
  rw [fidx_no _ _ hf] at hI
  clear hr hn hf ht
  generalize l.length = n at hI ⊢
  go_enter Tryz.func22, Tryz.ntmps22
  go_wp2_with (go_at_call 51; refine hI.mono ?_; rintro e w' ⟨rfl, hb⟩)
  go_ret2
  exact ⟨rfl, hb0.trans (hb.mono (by simp))⟩
set_option maxHeartbeats 1000000 in
set_option maxRecDepth 100000 in
theorem eval_some (A : Option Addr) (c i : Nat) (l : List S26) (qA qN : Int) (w : World) (hr : Kd.C k26 w A l.length l) (hn : l.length ≤ 1000000) (ht : l.all (fun x => (means1 x qA qN).isSome) = true) (hf : l.findIdx? (fun x => (means1 x qA qN).getD false) = some i) :
    Calls Tryz.prog 22 #[.slice A l.length c, .agg #[.int .u32 qA, .int .i64 qN]] w fun e w' => e = .returned (.tuple #[.bool l[i]!.f1, .int .i64 l[i]!.f0]) ∧ Below w.heap.size w w' := by
  have hb0 : Below w.heap.size w (w.alloc (.cells #[.int .u32 qA, .int .i64 qN] 24)) := (Below.refl _ _).alloc (Nat.le_refl _) _
  have hI := eval_index A c l qA qN w _ w.heap.size hr hb0 hn ht ((World.cell?_alloc_at #[.int .u32 qA, .int .i64 qN] 24 w.heap.size 0 rfl).trans rfl) ((World.cell?_alloc_at #[.int .u32 qA, .int .i64 qN] 24 w.heap.size 1 rfl).trans rfl)
  rw [fidx_nat _ _ i hf] at hI
  have hil : i < l.length := (List.findIdx?_eq_some_iff_getElem.1 hf).1
  obtain ⟨b, off, rfl, hb, hc⟩ := list_cells hr (by omega)
  have hcells := fun W hW => cells_below (w := w) (w' := W) hb hW hc i hil
  have HCL := Aside0.mk hcells
  have hneg : decide ((i : Int) < 0) = false := by simp
  have hlt : (i : Int) < (l.length : Int) := by omega
  have hge : (0 : Int) ≤ (i : Int) := by omega
  clear hr hf hc hcells ht
  generalize l.length = n at hI hil hn hlt ⊢
  generalize l[i]! = y at HCL ⊢
  go_enter Tryz.func22, Tryz.ntmps22
  go_wp2_with (go_at_call 51; refine hI.mono ?_; rintro e w1 ⟨rfl, hb'⟩; have hb1 : Below w.heap.size w w1 := hb0.trans (hb'.mono (by simp)); clear hb' hb0 hI; have c0 : w1.cell? ⟨b, off + i * 6, none⟩ = some (.int .i64 y.f0) := HCL.out w1 hb1 0 _ rfl; have c1 : w1.cell? ⟨b, off + i * 6 + 1, none⟩ = some (.bool y.f1) := HCL.out w1 hb1 1 _ rfl)
  go_region
  all_goals go_wp2
  all_goals go_ret2
  all_goals exact ⟨rfl, hb1.drew⟩
theorem plist_Eval.calls' (A0 : Option Addr) (c0 : Nat) (l0 : List S26) (a1_0 a1_1 : Int) (r0 : Bool) (r1 : Int) (w : World) (hr0 : Kd.C k26 w A0 l0.length l0) (hc0 : l0.length ≤ c0) (h : plist_Eval.f l0 a1_0 a1_1 = some (r0, r1)) :
    Calls Tryz.prog 22 #[.slice A0 l0.length c0, .agg #[.int .u32 a1_0, .int .i64 a1_1]] w fun e w' => e = .returned (.tuple #[.bool r0, .int .i64 r1]) ∧ Below w.heap.size w w' := by
  unfold plist_Eval.f at h
  split at h
  · rename_i hn
    cases hf : l0.findIdx? (fun x => (means1 x a1_0 a1_1).getD false) with
    | none =>
      have : l0.find? (fun x => (means1 x a1_0 a1_1).getD false) = none := by
        rw [List.findIdx?_eq_none_iff] at hf
        rw [List.find?_eq_none]
        intro x hx
        simp [hf x hx]
      rw [this] at h
      simp only [Option.some.injEq, Prod.mk.injEq] at h
      obtain ⟨rfl, rfl⟩ := h
      exact eval_none A0 c0 l0 a1_0 a1_1 w hr0 hn.1 hn.2 hf
    | some i =>
      obtain ⟨hi, hp, hj⟩ := List.findIdx?_eq_some_iff_getElem.1 hf
      have : l0.find? (fun x => (means1 x a1_0 a1_1).getD false) = some l0[i]! := by
        rw [getElem!_pos l0 i hi]
        exact List.find?_eq_some_iff_getElem.2 ⟨hp, i, hi, rfl, fun j hji => by simpa using hj j hji⟩
      rw [this] at h
      simp only [Option.some.injEq, Prod.mk.injEq] at h
      obtain ⟨rfl, rfl⟩ := h
      exact eval_some A0 c0 i l0 a1_0 a1_1 w hr0 hn.1 hn.2 hf
  · cases h
end Go.Proofs.YthngpkfckhmiiaaGreatDoor.X
end
section
set_option linter.unusedVariables false
set_option linter.unusedSimpArgs false
namespace Go.Proofs.YthngpkfckhmiiaaGreatDoor.X
open Go.RowKit Go.Proofs.YthngpkfckhmiiaaGreatDoorW.PrintWords Go.Proofs.YthngpkfckhmiiaaGreatDoor.Sl
theorem Blk0 (w : World) (cs : Array Value) (t : TypeId) : (w.alloc (.cells cs t)).heap[w.heap.size]? = some (.cells cs t (0, 0)) := heap_alloc_new w _
end Go.Proofs.YthngpkfckhmiiaaGreatDoor.X
end
section
set_option linter.unusedVariables false
set_option linter.unusedSimpArgs false
namespace Go.Proofs.YthngpkfckhmiiaaGreatDoor.X
open Go.RowKit Go.Proofs.YthngpkfckhmiiaaGreatDoorW.PrintWords Go.Proofs.YthngpkfckhmiiaaGreatDoor.Sl
def idl (l : List S26) (k : Nat) : List Int := (List.range k).filterMap fun i => if (l.take i).any (fun x => (hides1 x l[i]!).getD false) then some l[i]!.f0 else none
theorem idl_succ (l : List S26) (k : Nat) : idl l (k + 1) = idl l k ++ (if (l.take k).any (fun x => (hides1 x l[k]!).getD false) then [l[k]!.f0] else []) := by
  unfold idl
  rw [List.range_succ, List.filterMap_append]
  congr 1
  by_cases h : (l.take k).any (fun x => (hides1 x l[k]!).getD false) = true
  · simp only [List.filterMap_cons, List.filterMap_nil, h, if_true]
  · simp only [List.filterMap_cons, List.filterMap_nil, h, if_false]
    rfl
theorem idl_len (l : List S26) (k : Nat) : (idl l k).length ≤ k := by
  unfold idl
  exact Nat.le_trans (List.length_filterMap_le _ _) (by simp)
theorem inf3 : (Tryz.prog.info? 3).map (fun i => (i.zero, i.size, i.bytes)) = some (some (.int .i64 0), 1, 8) := by kernel_rfl
theorem idle_hides (b off c k : Nat) (l : List S26) (y : S26) (w W : World) (g : Nat) (hk : k < l.length) (hy : y ∈ l) (hn : l.length ≤ 1000000) (hb : b < w.heap.size)
    (hc : ∀ j, j < l.length → ∀ i v, (enc26 l[j]!)[i]? = some v → w.cell? ⟨b, off + j * 6 + i, none⟩ = some v) (hbW : Below w.heap.size w W)
    (hg : W.heap[g]? = some (.cells (enc26 y).toArray 26 (0, 0))) (ht : l.all (fun x => l.all fun y => (hides1 x y).isSome) = true) :
    Calls Tryz.prog 48 #[.slice (some ⟨b, off, none⟩) k c, .func (.func 49) #[] #[.pointer (some ⟨g, 0, none⟩)]] W fun e w' => e = .returned (.bool ((l.take k).any (fun x => (hides1 x y).getD false))) ∧ Below W.heap.size W w' := by
  have hlt : (l.take k).length = k := by rw [List.length_take]; omega
  refine Sl.R.contains_func enc26 enc26_len (fun x : S26 => (hides1 x y).getD false) 49 _ enters49 b off k c (l.take k) W (fun W' x hx hb' => ?_) hlt (by omega) (Nat.lt_of_lt_of_le hb hbW.size) (fun j hj i v hv => ?_)
  · have hxl : x ∈ l := List.mem_of_mem_take hx
    have hs := List.all_eq_true.1 (List.all_eq_true.1 ht x hxl) y hy
    obtain ⟨r, hr'⟩ := Option.isSome_iff_exists.1 hs
    have hgw := blk_lt hg
    refine (clo_idle x y g W' r (fun j v hv => ?_) hr').mono fun e w' ⟨h1, h2⟩ => ⟨by rw [h1]; simp [hr'], hb'.trans (h2.mono hb'.size)⟩
    rw [hb'.cell (p := ⟨g, j, none⟩) hgw, cell_of_row W g j _ _ _ hg]
    simpa using hv
  · rw [hlt] at hj
    refine cells_below hb hbW hc j (by omega) i v ?_
    rw [getElem!_pos l j (by omega)]
    rw [getElem!_pos (l.take k) j (by omega), List.getElem_take] at hv
    exact hv
set_option maxHeartbeats 4000000 in
set_option maxRecDepth 100000 in
theorem idle_some (b off c : Nat) (l : List S26) (w : World) (hn : l.length ≤ 1000000) (hb : b < w.heap.size) (hcap : l.length ≤ c)
    (hc : ∀ j, j < l.length → ∀ i v, (enc26 l[j]!)[i]? = some v → w.cell? ⟨b, off + j * 6 + i, none⟩ = some v) (ht : l.all (fun x => l.all fun y => (hides1 x y).isSome) = true) :
    Calls Tryz.prog 20 #[.slice (some ⟨b, off, none⟩) l.length c] w fun e w' => ∃ v, e = .returned v ∧ Kd.R (Kd.int .i64) 3 w' w.heap.size (fun _ => True) v (idl l l.length) ∧ Below w.heap.size w w' := by
  have HH := Aside0.mk (fun (k : Nat) (hk : k < l.length) (W : World) (g : Nat) hbW hg => idle_hides b off c k l l[k]! w W g hk (Sl.mem_bang l k hk) hn hb hc hbW hg ht)
  have HC := Aside0.mk (fun W hW => cells_below (w := w) (w' := W) hb hW hc)
  have HS := Aside0.mk (idl_succ l)
  have HL := Aside0.mk (idl_len l)
  clear hc ht
  have hcm : (l.length : Int) ≤ 9223372036854775807 := by omega
  go_enter Tryz.func20, Tryz.ntmps20
  go_wp2
  go_loopg [3, 8] l.length (fun gk v i wr => ∃ k : Nat, k ≤ l.length ∧ l.length - k ≤ gk ∧ i = .int .i64 k ∧ Aside0 (Kd.R (Kd.int .i64) 3 wr w.heap.size (fun _ => True) v (idl l k)) ∧ Aside0 (Below w.heap.size w wr))
  case atStart => exact ⟨0, Nat.zero_le _, by omega, rfl, ⟨Kd.R_nil _ _ _ _ _⟩, ⟨Below.refl _ _⟩⟩
  case round =>
    obtain ⟨k, hk, hgk, rfl, HO, HB⟩ := hrel
    by_cases hlt : k < l.length
    · have hltz : (k : Int) < (l.length : Int) := by omega
      have hkc : k ≤ c := by omega
      have hc1 := HC.out _ HB.out k hlt
      have HK := Aside0.mk (HH.out k hlt)
      have HS1 := HS.out k
      have HL1 := Aside0.mk (HL.out k)
      generalize hy : l[k]! = y at hc1 HK HS1
      generalize hany : (l.take k).any (fun x => (hides1 x y).getD false) = t at HK HS1
      have HS2 := Aside0.mk HS1
      clear HS1 hany hy
      have c0 := by simpa using hc1 0 _ rfl
      have c1 := hc1 1 _ rfl
      have c2 := hc1 2 _ rfl
      have c3 := hc1 3 _ rfl
      have c4 := hc1 4 _ rfl
      have c5 := hc1 5 _ rfl
      clear hc1
      have hsz : w.heap.size ≤ wr.heap.size := HB.out.size
      have hbA : Below w.heap.size w (wr.alloc (.cells #[.int .i64 y.f0, .bool y.f1, .int .u32 y.f2.f0, .int .i64 y.f2.f1, .int .i64 y.f3, .int .i64 y.f4] 26)) := HB.out.alloc hsz _
      have hgA := Blk0 wr #[.int .i64 y.f0, .bool y.f1, .int .u32 y.f2.f0, .int .i64 y.f2.f1, .int .i64 y.f3, .int .i64 y.f4] 26
      have HOA := Aside0.mk (Kd.R_below HO.out ((Below.refl _ _).alloc (Nat.le_refl _) (.cells #[.int .i64 y.f0, .bool y.f1, .int .u32 y.f2.f0, .int .i64 y.f2.f1, .int .i64 y.f3, .int .i64 y.f4] 26)))
      have HK1 := Aside0.mk (HK.out _ wr.heap.size hbA hgA)
      have HGA := Aside0.mk hgA
      have HBA := Aside0.mk hbA
      clear hgA hbA HK HO HB
      cases t
      · go_wp2_with (go_at_call 48; refine HK1.out.mono ?_; rintro e w1 ⟨rfl, hb1⟩; have HB1 := Aside0.mk (HBA.out.trans (hb1.mono HBA.out.size)); have HO1 := Aside0.mk (Kd.R_below HOA.out hb1); clear hb1)
        go_roundg (l.length - (k + 1))
        case measure => omega
        case rel =>
          refine ⟨k + 1, by omega, by omega, by go_num, ⟨?_⟩, HB1⟩
          rw [HS2.out]
          simpa using HO1.out
      · go_wp2_with (first
          | (go_at_call 48; refine HK1.out.mono ?_; rintro e w1 ⟨rfl, hb1⟩; have HB1 := Aside0.mk (HBA.out.trans (hb1.mono HBA.out.size)); have HO1 := Aside0.mk (Kd.R_below HOA.out hb1); have q0 : w1.cell? ⟨wr.heap.size, 0, none⟩ = some (.int .i64 y.f0) := (hb1.cell (p := ⟨wr.heap.size, 0, none⟩) (by simp)).trans ((cell_of_row _ _ 0 _ _ _ HGA.out).trans rfl); clear hb1)
          | (at_builtin; refine Kd.R_append (Kd.int .i64) (w0 := w) w.heap.size rfl (.tmp 18) (.tmp 21) 46 3 (.int .i64 0) 8 rfl Tryz.underlying46 inf3 rfl (by decide) (by omega) u3 (idl l k) y.f0 [.int .i64 y.f0] (fun _ => True) (fun _ => False) rfl rfl rfl (fun _ h => h.elim) (fun _ _ => trivial) HO1.out HB1.out HB1.out.size (by have := HL1.out; omega) ?_; intro v1 w2 HO2 HB2 _ _; have HB3 := Aside0.mk HB2; have HO3 := Aside0.mk HO2; clear HB2 HO2))
        go_roundg (l.length - (k + 1))
        case measure => omega
        case rel =>
          refine ⟨k + 1, by omega, by omega, by go_num, ⟨?_⟩, HB3⟩
          rw [HS2.out]
          exact HO3.out
    · have hltz : ¬ (k : Int) < (l.length : Int) := by omega
      obtain rfl : k = l.length := by omega
      go_wp2
      go_ret
      exact ⟨_, rfl, HO.out, HB.out⟩
set_option maxHeartbeats 1000000 in
theorem idle_none (A : Option Addr) (c : Nat) (w : World) :
    Calls Tryz.prog 20 #[.slice A 0 c] w fun e w' => ∃ v, e = .returned v ∧ Kd.R (Kd.int .i64) 3 w' w.heap.size (fun _ => True) v [] ∧ Below w.heap.size w w' := by
  go_enter Tryz.func20, Tryz.ntmps20
  go_wp2
  go_loopg [3, 8] 0 (fun gk v i wr => v = .slice none 0 0 ∧ i = .int .i64 0 ∧ Aside0 (Below w.heap.size w wr))
  case atStart => exact ⟨rfl, rfl, ⟨Below.refl _ _⟩⟩
  case round =>
    obtain ⟨rfl, rfl, HB⟩ := hrel
    go_wp2
    go_ret
    exact ⟨_, rfl, Kd.R_nil _ _ _ _ _, HB.out⟩
theorem plist_Idle.calls' (A0 : Option Addr) (c0 : Nat) (l0 : List S26) (r : List Int) (w : World) (hr0 : Kd.C k26 w A0 l0.length l0) (hc0 : l0.length ≤ c0) (h : plist_Idle.f l0 = some r) :
    Calls Tryz.prog 20 #[.slice A0 l0.length c0] w fun e w' => ∃ v0_ : Value, e = .returned (v0_) ∧ Kd.R (Kd.int .i64) 3 w' w.heap.size (fun _ => True) v0_ r ∧ Below w.heap.size w w' := by
  unfold plist_Idle.f at h
  split at h
  · rename_i hc
    obtain rfl := Option.some.inj h
    rcases Nat.eq_zero_or_pos l0.length with h0 | h0
    · obtain rfl : l0 = [] := List.eq_nil_of_length_eq_zero h0
      exact idle_none A0 c0 w
    · obtain ⟨b, off, rfl, hb, hcc⟩ := list_cells hr0 h0
      exact idle_some b off c0 l0 w hc.1 hb hc0 hcc hc.2
  · cases h
end Go.Proofs.YthngpkfckhmiiaaGreatDoor.X
end
section
set_option linter.unusedVariables false
set_option linter.unusedSimpArgs false
namespace Go.Proofs.YthngpkfckhmiiaaGreatDoor.X
open Go.RowKit Go.Proofs.YthngpkfckhmiiaaGreatDoorW.PrintWords Go.Proofs.YthngpkfckhmiiaaGreatDoor.Sl
theorem rc_all {W : World} {g : Nat} {s : Int} {p : Bool} {A N ge le : Int} (h : W.heap[g]? = some (ruleCells s p A N ge le)) :
    W.cell? ⟨g, 0, none⟩ = some (.int .i64 s) ∧ W.cell? ⟨g, 1, none⟩ = some (.bool p) ∧ W.cell? ⟨g, 2, none⟩ = some (.int .u32 A) ∧ W.cell? ⟨g, 3, none⟩ = some (.int .i64 N) ∧ W.cell? ⟨g, 4, none⟩ = some (.int .i64 ge) ∧ W.cell? ⟨g, 5, none⟩ = some (.int .i64 le)
    ∧ W.frozen? ⟨g, 0, none⟩ = false ∧ W.frozen? ⟨g, 1, none⟩ = false ∧ W.frozen? ⟨g, 2, none⟩ = false ∧ W.frozen? ⟨g, 3, none⟩ = false ∧ W.frozen? ⟨g, 4, none⟩ = false ∧ W.frozen? ⟨g, 5, none⟩ = false := by
  simp [World.cell?, World.frozen?, ruleCells, h]
theorem al_mine (W : World) (s : Int) (p : Bool) (A N ge le : Int) : (W.alloc (ruleCells s p A N ge le)).heap[W.heap.size]? = some (ruleCells s p A N ge le) := by
  show (W.heap.push _)[_]? = _
  simp
theorem set6 {W : World} {g : Nat} {s s' : Int} {p p' : Bool} {A A' N N' ge ge' le le' : Int} (h : W.heap[g]? = some (ruleCells s p A N ge le)) :
    ((((((W.setCell ⟨g, 0, none⟩ (.int .i64 s')).setCell ⟨g, 1, none⟩ (.bool p')).setCell ⟨g, 2, none⟩ (.int .u32 A')).setCell ⟨g, 3, none⟩ (.int .i64 N')).setCell ⟨g, 4, none⟩ (.int .i64 ge')).setCell ⟨g, 5, none⟩ (.int .i64 le')).heap[g]? = some (ruleCells s' p' A' N' ge' le') := by
  simp [World.setCell, ruleCells, Array.getElem?_modify] at h ⊢
  simp [h]
def Words (W w' : World) (xs : List ByteArray) : Prop := Below W.heap.size W w' ∧ W.heap.size < w'.heap.size ∧ ∀ j s, xs[j]? = some s → w'.cell? ⟨W.heap.size, j, none⟩ = some (.string s)
set_option maxRecDepth 20000 in
set_option maxHeartbeats 1000000 in
theorem parse_a (a0 : ByteArray) (xs : List ByteArray) (w : World) (hS : ∀ W : World, Below w.heap.size w W → Calls Tryz.prog 30 #[.string a0, .string ⟨#[32]⟩] W fun e w' => e = .returned (.slice (some ⟨W.heap.size, 0, none⟩) xs.length xs.length) ∧ Words W w' xs) (hl : (xs.length : Int) < 3) :
    Calls Tryz.prog 8 #[.string a0] w fun e w' => e = .returned (.tuple #[.agg #[.int .i64 0, .bool false, .int .u32 0, .int .i64 0, .int .i64 0, .int .i64 0], .int .i64 3]) ∧ Below w.heap.size w w' := by
  go_enter Tryz.func8, Tryz.ntmps8
  go_wp2_with (go_at_call 30; refine (hS _ (be_al _ (Below.refl _ _) (Nat.le_refl _))).mono ?_; rintro e w' ⟨rfl, hb, qs, qw⟩; clear qw; obtain ⟨r0, r1, r2, r3, r4, r5, f0, f1, f2, f3, f4, f5⟩ := rc_all (be_keep hb (al_mine w 0 false 0 0 0 0)); have hg2 := be_keep hb (al_mine w 0 false 0 0 0 0))
  all_goals refine bodyPost_ret (results_ct rfl _ _ w.heap.size 26 _ (0, 0) _ rfl (set6 hg2) Tryz.underlying26 rfl rfl) rfl ⟨rfl, ?_⟩
  all_goals (repeat with_reducible first | exact Below.refl _ _ | apply Below.drew | refine be_al _ ?_ (Nat.le_refl _) | refine be_set _ _ ?_ (Nat.le_refl _) | refine be_go hb ?_ (Nat.le_refl _))
set_option maxRecDepth 20000 in
set_option maxHeartbeats 1000000 in
theorem parse_n (a0 : ByteArray) (xs : List ByteArray) (w : World) (s0 s1 s2 : ByteArray) (m : Int) (hx0 : xs[0]? = some s0) (hx1 : xs[1]? = some s1) (hx2 : xs[2]? = some s2)
    (hS : ∀ W : World, Below w.heap.size w W → Calls Tryz.prog 30 #[.string a0, .string ⟨#[32]⟩] W fun e w' => e = .returned (.slice (some ⟨W.heap.size, 0, none⟩) xs.length xs.length) ∧ Words W w' xs) (hl : decide ((xs.length : Int) < 3) = false)
    (hn : plist_number.f s0 = some m) (hm : (m == 0) = true) :
    Calls Tryz.prog 8 #[.string a0] w fun e w' => e = .returned (.tuple #[.agg #[.int .i64 0, .bool false, .int .u32 0, .int .i64 0, .int .i64 0, .int .i64 0], .int .i64 3]) ∧ Below w.heap.size w w' := by
  have h0 : 0 < (xs.length : Int) := by simp at hl; omega
  have h1 : 1 < (xs.length : Int) := by simp at hl; omega
  have h2 : 0 < xs.length := by omega
  have h3 : 1 < xs.length := by omega
  have h4 : ¬ (xs.length : Int) < 3 := by simp at hl; omega
  have h5 : 2 < (xs.length : Int) := by simp at hl; omega
  have h6 : 2 < xs.length := by omega
  have hc := fun W => plist_number.calls s0 m W hn
  clear hn
  go_enter Tryz.func8, Tryz.ntmps8
  go_wp2_with (first | (go_at_call 30; refine (hS _ (be_al _ (Below.refl _ _) (Nat.le_refl _))).mono ?_; rintro e w' ⟨rfl, hb, qs, qw⟩; replace qs : w.heap.size + 1 < w'.heap.size := (by simpa using qs); have q0 : w'.cell? ⟨w.heap.size + 1, 0, none⟩ = some (.string s0) := (by simpa using qw 0 s0 hx0); have q1 : w'.cell? ⟨w.heap.size + 1, 1, none⟩ = some (.string s1) := (by simpa using qw 1 s1 hx1); have q2 : w'.cell? ⟨w.heap.size + 1, 2, none⟩ = some (.string s2) := (by simpa using qw 2 s2 hx2); have hg := be_keep hb (al_mine w 0 false 0 0 0 0); have QW := Aside0.mk (show ∀ (j : Nat) (s : ByteArray), xs[j]? = some s → w'.cell? ⟨w.heap.size + 1, j, none⟩ = some (.string s) from fun j s hj => by simpa using qw j s hj); clear qw) | (go_at_call 31; refine (hc _).mono ?_; rintro e w2 ⟨rfl, hb2⟩; have z0 := be_cell hb2 q0; have z1 := be_cell hb2 q1; have z2 := be_cell hb2 q2; have hg2 := be_keep hb2 hg; obtain ⟨r0, r1, r2, r3, r4, r5, f0, f1, f2, f3, f4, f5⟩ := rc_all hg2))
  all_goals refine bodyPost_ret (results_ct rfl _ _ w.heap.size 26 _ (0, 0) _ rfl (set6 hg2) Tryz.underlying26 rfl rfl) rfl ⟨rfl, ?_⟩
  all_goals (repeat with_reducible first | exact Below.refl _ _ | apply Below.drew | refine be_al _ ?_ (Nat.le_refl _) | refine be_set _ _ ?_ (Nat.le_refl _) | refine be_go hb2 ?_ (Nat.le_refl _) | refine be_go hb ?_ (Nat.le_refl _))
set_option maxRecDepth 20000 in
set_option maxHeartbeats 1000000 in
theorem parse_b (a0 : ByteArray) (xs : List ByteArray) (w : World) (s0 s1 s2 : ByteArray) (m : Int) (hx0 : xs[0]? = some s0) (hx1 : xs[1]? = some s1) (hx2 : xs[2]? = some s2)
    (hS : ∀ W : World, Below w.heap.size w W → Calls Tryz.prog 30 #[.string a0, .string ⟨#[32]⟩] W fun e w' => e = .returned (.slice (some ⟨W.heap.size, 0, none⟩) xs.length xs.length) ∧ Words W w' xs) (hl : decide ((xs.length : Int) < 3) = false)
    (hn : plist_number.f s0 = some m) (hm : (m == 0) = false) (hs1 : (s1.toList == [112, 101, 114, 109, 105, 116]) = false) (hs2 : (s1.toList == [100, 101, 110, 121]) = false) :
    Calls Tryz.prog 8 #[.string a0] w fun e w' => e = .returned (.tuple #[.agg #[.int .i64 0, .bool false, .int .u32 0, .int .i64 0, .int .i64 0, .int .i64 0], .int .i64 3]) ∧ Below w.heap.size w w' := by
  have h0 : 0 < (xs.length : Int) := by simp at hl; omega
  have h1 : 1 < (xs.length : Int) := by simp at hl; omega
  have h2 : 0 < xs.length := by omega
  have h3 : 1 < xs.length := by omega
  have h4 : ¬ (xs.length : Int) < 3 := by simp at hl; omega
  have h5 : 2 < (xs.length : Int) := by simp at hl; omega
  have h6 : 2 < xs.length := by omega
  have hc := fun W => plist_number.calls s0 m W hn
  clear hn
  go_enter Tryz.func8, Tryz.ntmps8
  go_wp2_with (first | (go_at_call 30; refine (hS _ (be_al _ (Below.refl _ _) (Nat.le_refl _))).mono ?_; rintro e w' ⟨rfl, hb, qs, qw⟩; replace qs : w.heap.size + 1 < w'.heap.size := (by simpa using qs); have q0 : w'.cell? ⟨w.heap.size + 1, 0, none⟩ = some (.string s0) := (by simpa using qw 0 s0 hx0); have q1 : w'.cell? ⟨w.heap.size + 1, 1, none⟩ = some (.string s1) := (by simpa using qw 1 s1 hx1); have q2 : w'.cell? ⟨w.heap.size + 1, 2, none⟩ = some (.string s2) := (by simpa using qw 2 s2 hx2); have hg := be_keep hb (al_mine w 0 false 0 0 0 0); have QW := Aside0.mk (show ∀ (j : Nat) (s : ByteArray), xs[j]? = some s → w'.cell? ⟨w.heap.size + 1, j, none⟩ = some (.string s) from fun j s hj => by simpa using qw j s hj); clear qw) | (go_at_call 31; refine (hc _).mono ?_; rintro e w2 ⟨rfl, hb2⟩; have z0 := be_cell hb2 q0; have z1 := be_cell hb2 q1; have z2 := be_cell hb2 q2; have hg2 := be_keep hb2 hg; obtain ⟨r0, r1, r2, r3, r4, r5, f0, f1, f2, f3, f4, f5⟩ := rc_all hg2))
  all_goals refine bodyPost_ret (results_ct rfl _ _ w.heap.size 26 _ (0, 0) _ rfl (set6 hg2) Tryz.underlying26 rfl rfl) rfl ⟨rfl, ?_⟩
  all_goals (repeat with_reducible first | exact Below.refl _ _ | apply Below.drew | refine be_al _ ?_ (Nat.le_refl _) | refine be_set _ _ ?_ (Nat.le_refl _) | refine be_go hb2 ?_ (Nat.le_refl _) | refine be_go hb ?_ (Nat.le_refl _))
theorem set6_far {W : World} {g g' : Nat} {v0 v1 v2 v3 v4 v5 : Value} (h : g' ≠ g) :
    ((((((W.setCell ⟨g, 0, none⟩ v0).setCell ⟨g, 1, none⟩ v1).setCell ⟨g, 2, none⟩ v2).setCell ⟨g, 3, none⟩ v3).setCell ⟨g, 4, none⟩ v4).setCell ⟨g, 5, none⟩ v5).heap[g']? = W.heap[g']? := by
  have h' : g ≠ g' := fun e => h e.symm
  simp [World.setCell, Array.getElem?_modify, h']
theorem set6_below {w W : World} {B g : Nat} {v0 v1 v2 v3 v4 v5 : Value} (h : Below B w W) (hg : B ≤ g) :
    Below B w ((((((W.setCell ⟨g, 0, none⟩ v0).setCell ⟨g, 1, none⟩ v1).setCell ⟨g, 2, none⟩ v2).setCell ⟨g, 3, none⟩ v3).setCell ⟨g, 4, none⟩ v4).setCell ⟨g, 5, none⟩ v5) :=
  be_set _ _ (be_set _ _ (be_set _ _ (be_set _ _ (be_set _ _ (be_set _ _ h hg) hg) hg) hg) hg) hg
set_option maxRecDepth 20000 in
set_option maxHeartbeats 4000000 in
theorem parse_c_true (a0 : ByteArray) (xs : List ByteArray) (w : World) (s0 s1 s2 : ByteArray) (m : Int) (hx0 : xs[0]? = some s0) (hx1 : xs[1]? = some s1) (hx2 : xs[2]? = some s2)
    (hS : ∀ W : World, Below w.heap.size w W → Calls Tryz.prog 30 #[.string a0, .string ⟨#[32]⟩] W fun e w' => e = .returned (.slice (some ⟨W.heap.size, 0, none⟩) xs.length xs.length) ∧ Words W w' xs) (hl : decide ((xs.length : Int) < 3) = false)
    (hn : plist_number.f s0 = some m) (hm : (m == 0) = false) (hs1 : (s1.toList == [112, 101, 114, 109, 105, 116]) = true)  (A N e3 : Int)
    (hA : ∀ W : World, Below w.heap.size w W → Calls Tryz.prog 32 #[.string s2] W fun e w' => e = .returned (.tuple #[.agg #[.int .u32 A, .int .i64 N], .int .i64 e3]) ∧ Below W.heap.size W w') (he : (e3 == 3) = true) :
    Calls Tryz.prog 8 #[.string a0] w fun e w' => e = .returned (.tuple #[.agg #[.int .i64 0, .bool false, .int .u32 0, .int .i64 0, .int .i64 0, .int .i64 0], .int .i64 3]) ∧ Below w.heap.size w w' := by
  have h0 : 0 < (xs.length : Int) := by simp at hl; omega
  have h1 : 1 < (xs.length : Int) := by simp at hl; omega
  have h2 : 0 < xs.length := by omega
  have h3 : 1 < xs.length := by omega
  have h4 : ¬ (xs.length : Int) < 3 := by simp at hl; omega
  have h5 : 2 < (xs.length : Int) := by simp at hl; omega
  have h6 : 2 < xs.length := by omega
  have hc := fun W => plist_number.calls s0 m W hn
  clear hn
  go_enter Tryz.func8, Tryz.ntmps8
  go_wp2_with (first | (go_at_call 30; refine (hS _ (be_al _ (Below.refl _ _) (Nat.le_refl _))).mono ?_; rintro e w' ⟨rfl, hb, qs, qw⟩; replace qs : w.heap.size + 1 < w'.heap.size := (by simpa using qs); have q0 : w'.cell? ⟨w.heap.size + 1, 0, none⟩ = some (.string s0) := (by simpa using qw 0 s0 hx0); have q1 : w'.cell? ⟨w.heap.size + 1, 1, none⟩ = some (.string s1) := (by simpa using qw 1 s1 hx1); have q2 : w'.cell? ⟨w.heap.size + 1, 2, none⟩ = some (.string s2) := (by simpa using qw 2 s2 hx2); have hg := be_keep hb (al_mine w 0 false 0 0 0 0); have QW := Aside0.mk (show ∀ (j : Nat) (s : ByteArray), xs[j]? = some s → w'.cell? ⟨w.heap.size + 1, j, none⟩ = some (.string s) from fun j s hj => by simpa using qw j s hj); clear qw) | (go_at_call 31; refine (hc _).mono ?_; rintro e w2 ⟨rfl, hb2⟩; have z0 := be_cell hb2 q0; have z1 := be_cell hb2 q1; have z2 := be_cell hb2 q2; have hg2 := be_keep hb2 hg; obtain ⟨r0, r1, r2, r3, r4, r5, f0, f1, f2, f3, f4, f5⟩ := rc_all hg2) | (go_at_call 32; refine (hA _ (be_go hb2 (be_go hb (be_al _ (Below.refl _ _) (Nat.le_refl _)) (Nat.le_refl _)) (Nat.le_refl _))).mono ?_; rintro e w3 ⟨rfl, hb3⟩; have hg3 := be_keep hb3 hg2))
  all_goals have v2 : (w3.alloc (.cells #[.int .u32 A, .int .i64 N] 24)).cell? ⟨w3.heap.size, 0, none⟩ = some (.int .u32 A) := (al_new rfl).trans rfl
  all_goals have v3 : (w3.alloc (.cells #[.int .u32 A, .int .i64 N] 24)).cell? ⟨w3.heap.size, 1, none⟩ = some (.int .i64 N) := (al_new rfl).trans rfl
  all_goals have y0 := be_cell hb3 z0
  all_goals have y1 := be_cell hb3 z1
  all_goals have v0 := (World.cell?_alloc_some w3 _ (.cells #[.int .u32 A, .int .i64 N] 24) (by rw [y0]; rfl)).trans y0
  all_goals have v1 := (World.cell?_alloc_some w3 _ (.cells #[.int .u32 A, .int .i64 N] 24) (by rw [y1]; rfl)).trans y1
  all_goals have vg := al_keep (.cells #[.int .u32 A, .int .i64 N] 24) hg3
  all_goals have vb : Below w.heap.size w (w3.alloc (.cells #[.int .u32 A, .int .i64 N] 24)) := by (repeat with_reducible first | exact Below.refl _ _ | apply Below.drew | refine be_al _ ?_ (Nat.le_refl _) | refine be_set _ _ ?_ (Nat.le_refl _) | refine be_go hb3 ?_ (Nat.le_refl _) | refine be_go hb2 ?_ (Nat.le_refl _) | refine be_go hb ?_ (Nat.le_refl _))
  all_goals have vq : Below w'.heap.size w' (w3.alloc (.cells #[.int .u32 A, .int .i64 N] 24)) := ((hb2.trans (hb3.mono hb2.size)).alloc (Nat.le_trans hb2.size hb3.size) _)
  all_goals have vs1 : w.heap.size + 1 < (w3.alloc (.cells #[.int .u32 A, .int .i64 N] 24)).heap.size := Nat.lt_of_lt_of_le qs vq.size
  all_goals have vs2 : w3.heap.size < (w3.alloc (.cells #[.int .u32 A, .int .i64 N] 24)).heap.size := by simp
  all_goals have QV := Aside0.mk (fun j s hj => be_cell vq (QW.out j s hj))
  all_goals clear hb hb2 hb3 z0 z1 z2 y0 y1 hg hg2 hg3 q0 q1 q2 r0 r1 r2 r3 r4 r5 f0 f1 f2 f3 f4 f5 QW vq
  all_goals generalize w3.alloc (.cells #[.int .u32 A, .int .i64 N] 24) = w5 at *
  all_goals have vn1 : w.heap.size + 1 ≠ w5.heap.size := Nat.ne_of_lt vs1
  all_goals have vn2 : w5.heap.size ≠ w.heap.size + 1 := vn1.symm
  all_goals have vn3 : w3.heap.size ≠ w5.heap.size := Nat.ne_of_lt vs2
  all_goals have vn4 : w5.heap.size ≠ w3.heap.size := vn3.symm
  all_goals go_region_held3 (fun W => W.cell? ⟨w.heap.size + 1, 0, none⟩ = some (.string s0) ∧ W.cell? ⟨w.heap.size + 1, 1, none⟩ = some (.string s1) ∧ W.cell? ⟨w3.heap.size, 0, none⟩ = some (.int .u32 A) ∧ W.cell? ⟨w3.heap.size, 1, none⟩ = some (.int .i64 N)) (go_keep) (first | (go_at_call 31; refine (hc _).mono ?_; rintro e w4 ⟨rfl, hb4⟩; (first | (have ordA : True := trivial; have h54 : Below w5.heap.size w5 w4 := ((Below.refl _ _).drew).trans hb4) | (have ordB : True := trivial; have h54 : Below w5.heap.size w5 w4 := (((Below.refl _ _).drew).alloc (Nat.le_refl _) _).trans (hb4.mono (by simp)); have hgx0 := (hb4.block w5.heap.size (by simp)).trans (al_mine w5.drew 0 false 0 0 0 0); obtain ⟨x0, x1, x2, x3, x4, x5, fx0, fx1, fx2, fx3, fx4, fx5⟩ := rc_all hgx0)); have j0 := be_cell h54 v0; have j1 := be_cell h54 v1; have j2 := be_cell h54 v2; have j3 := be_cell h54 v3; have js := Nat.lt_of_lt_of_le vs1 h54.size; have jt := Nat.lt_of_lt_of_le vs2 h54.size; have jz := h54.size))
  · have _t := ordA
    have HX : (w4.alloc (.cells #[.int .i64 m, .bool true, .int .u32 A, .int .i64 N, .int .i64 0, .int .i64 0] 26)).heap[w4.heap.size]? = some (ruleCells m true A N 0 0) := al_mine w4 m true A N 0 0
    have HG : (w4.alloc (.cells #[.int .i64 m, .bool true, .int .u32 A, .int .i64 N, .int .i64 0, .int .i64 0] 26)).heap[w.heap.size]? = some (ruleCells 0 false 0 0 0 0) := al_keep _ (be_keep h54 vg)
    have QW := Aside0.mk (fun (j : Nat) (s : ByteArray) (hj : xs[j]? = some s) => (show (w4.alloc (.cells #[.int .i64 m, .bool true, .int .u32 A, .int .i64 N, .int .i64 0, .int .i64 0] 26)).cell? ⟨w.heap.size + 1, j, none⟩ = some (.string s) from (World.cell?_alloc_lt w4 _ ⟨w.heap.size + 1, j, none⟩ js).trans (be_cell h54 (QV.out j s hj))))
    have B6 : Below w.heap.size w (w4.alloc (.cells #[.int .i64 m, .bool true, .int .u32 A, .int .i64 N, .int .i64 0, .int .i64 0] 26)) := be_al _ (be_go h54 vb (Nat.le_refl _)) (Nat.le_refl _)
    have gs : w4.heap.size < (w4.alloc (.cells #[.int .i64 m, .bool true, .int .u32 A, .int .i64 N, .int .i64 0, .int .i64 0] 26)).heap.size := by simp
    have gw : w.heap.size + 1 < w4.heap.size := js
    have bs : w.heap.size + 1 < (w4.alloc (.cells #[.int .i64 m, .bool true, .int .u32 A, .int .i64 N, .int .i64 0, .int .i64 0] 26)).heap.size := Nat.lt_trans gw gs
    clear ordA
    clear h54 vg vb hb4 v0 v1 v2 v3 vs1 vs2 vn1 vn2 vn3 vn4 QV j0 j1 j2 j3 js jt jz
    generalize w4.alloc (.cells #[.int .i64 m, .bool true, .int .u32 A, .int .i64 N, .int .i64 0, .int .i64 0] 26) = w6 at *
    generalize w4.heap.size = gx at *
    obtain ⟨r0, r1, r2, r3, r4, r5, f0, f1, f2, f3, f4, f5⟩ := rc_all HG
    go_wp2
    exact bodyPost_ret (results_ct rfl _ _ w.heap.size 26 _ (0, 0) _ rfl (set6 HG) Tryz.underlying26 rfl rfl) rfl ⟨rfl, set6_below B6 (Nat.le_refl _)⟩
  · have _t := ordB
    have HX : (((((((w4.setCell ⟨w5.heap.size, 0, none⟩ (.int .i64 m)).setCell ⟨w5.heap.size, 1, none⟩ (.bool true)).setCell ⟨w5.heap.size, 2, none⟩ (.int .u32 A)).setCell ⟨w5.heap.size, 3, none⟩ (.int .i64 N)).setCell ⟨w5.heap.size, 4, none⟩ (.int .i64 0)).setCell ⟨w5.heap.size, 5, none⟩ (.int .i64 0))).heap[w5.heap.size]? = some (ruleCells m true A N 0 0) := set6 hgx0
    have HG : (((((((w4.setCell ⟨w5.heap.size, 0, none⟩ (.int .i64 m)).setCell ⟨w5.heap.size, 1, none⟩ (.bool true)).setCell ⟨w5.heap.size, 2, none⟩ (.int .u32 A)).setCell ⟨w5.heap.size, 3, none⟩ (.int .i64 N)).setCell ⟨w5.heap.size, 4, none⟩ (.int .i64 0)).setCell ⟨w5.heap.size, 5, none⟩ (.int .i64 0))).heap[w.heap.size]? = some (ruleCells 0 false 0 0 0 0) := (set6_far (by omega)).trans (be_keep h54 vg)
    have QW := Aside0.mk (fun (j : Nat) (s : ByteArray) (hj : xs[j]? = some s) => (show (((((((w4.setCell ⟨w5.heap.size, 0, none⟩ (.int .i64 m)).setCell ⟨w5.heap.size, 1, none⟩ (.bool true)).setCell ⟨w5.heap.size, 2, none⟩ (.int .u32 A)).setCell ⟨w5.heap.size, 3, none⟩ (.int .i64 N)).setCell ⟨w5.heap.size, 4, none⟩ (.int .i64 0)).setCell ⟨w5.heap.size, 5, none⟩ (.int .i64 0))).cell? ⟨w.heap.size + 1, j, none⟩ = some (.string s) from (World.cell?_of_block (set6_far (by omega))).trans (be_cell h54 (QV.out j s hj))))
    have B6 : Below w.heap.size w (((((((w4.setCell ⟨w5.heap.size, 0, none⟩ (.int .i64 m)).setCell ⟨w5.heap.size, 1, none⟩ (.bool true)).setCell ⟨w5.heap.size, 2, none⟩ (.int .u32 A)).setCell ⟨w5.heap.size, 3, none⟩ (.int .i64 N)).setCell ⟨w5.heap.size, 4, none⟩ (.int .i64 0)).setCell ⟨w5.heap.size, 5, none⟩ (.int .i64 0))) := set6_below (be_go h54 vb (Nat.le_refl _)) (by omega)
    have gs : w5.heap.size < (((((((w4.setCell ⟨w5.heap.size, 0, none⟩ (.int .i64 m)).setCell ⟨w5.heap.size, 1, none⟩ (.bool true)).setCell ⟨w5.heap.size, 2, none⟩ (.int .u32 A)).setCell ⟨w5.heap.size, 3, none⟩ (.int .i64 N)).setCell ⟨w5.heap.size, 4, none⟩ (.int .i64 0)).setCell ⟨w5.heap.size, 5, none⟩ (.int .i64 0))).heap.size := by have q := blk_lt hgx0; simpa [World.setCell] using q
    have gw : w.heap.size + 1 < w5.heap.size := vs1
    have bs : w.heap.size + 1 < (((((((w4.setCell ⟨w5.heap.size, 0, none⟩ (.int .i64 m)).setCell ⟨w5.heap.size, 1, none⟩ (.bool true)).setCell ⟨w5.heap.size, 2, none⟩ (.int .u32 A)).setCell ⟨w5.heap.size, 3, none⟩ (.int .i64 N)).setCell ⟨w5.heap.size, 4, none⟩ (.int .i64 0)).setCell ⟨w5.heap.size, 5, none⟩ (.int .i64 0))).heap.size := Nat.lt_trans gw gs
    clear ordB hgx0 x0 x1 x2 x3 x4 x5 fx0 fx1 fx2 fx3 fx4 fx5
    clear h54 vg vb hb4 v0 v1 v2 v3 vs1 vs2 vn1 vn2 vn3 vn4 QV j0 j1 j2 j3 js jt jz
    generalize ((((((w4.setCell ⟨w5.heap.size, 0, none⟩ (.int .i64 m)).setCell ⟨w5.heap.size, 1, none⟩ (.bool true)).setCell ⟨w5.heap.size, 2, none⟩ (.int .u32 A)).setCell ⟨w5.heap.size, 3, none⟩ (.int .i64 N)).setCell ⟨w5.heap.size, 4, none⟩ (.int .i64 0)).setCell ⟨w5.heap.size, 5, none⟩ (.int .i64 0)) = w6 at *
    generalize w5.heap.size = gx at *
    obtain ⟨r0, r1, r2, r3, r4, r5, f0, f1, f2, f3, f4, f5⟩ := rc_all HG
    go_wp2
    exact bodyPost_ret (results_ct rfl _ _ w.heap.size 26 _ (0, 0) _ rfl (set6 HG) Tryz.underlying26 rfl rfl) rfl ⟨rfl, set6_below B6 (Nat.le_refl _)⟩
set_option maxRecDepth 20000 in
set_option maxHeartbeats 4000000 in
theorem parse_c_false (a0 : ByteArray) (xs : List ByteArray) (w : World) (s0 s1 s2 : ByteArray) (m : Int) (hx0 : xs[0]? = some s0) (hx1 : xs[1]? = some s1) (hx2 : xs[2]? = some s2)
    (hS : ∀ W : World, Below w.heap.size w W → Calls Tryz.prog 30 #[.string a0, .string ⟨#[32]⟩] W fun e w' => e = .returned (.slice (some ⟨W.heap.size, 0, none⟩) xs.length xs.length) ∧ Words W w' xs) (hl : decide ((xs.length : Int) < 3) = false)
    (hn : plist_number.f s0 = some m) (hm : (m == 0) = false) (hs1 : (s1.toList == [112, 101, 114, 109, 105, 116]) = false) (hs3 : (s1.toList == [100, 101, 110, 121]) = true) (A N e3 : Int)
    (hA : ∀ W : World, Below w.heap.size w W → Calls Tryz.prog 32 #[.string s2] W fun e w' => e = .returned (.tuple #[.agg #[.int .u32 A, .int .i64 N], .int .i64 e3]) ∧ Below W.heap.size W w') (he : (e3 == 3) = true) :
    Calls Tryz.prog 8 #[.string a0] w fun e w' => e = .returned (.tuple #[.agg #[.int .i64 0, .bool false, .int .u32 0, .int .i64 0, .int .i64 0, .int .i64 0], .int .i64 3]) ∧ Below w.heap.size w w' := by
  have h0 : 0 < (xs.length : Int) := by simp at hl; omega
  have h1 : 1 < (xs.length : Int) := by simp at hl; omega
  have h2 : 0 < xs.length := by omega
  have h3 : 1 < xs.length := by omega
  have h4 : ¬ (xs.length : Int) < 3 := by simp at hl; omega
  have h5 : 2 < (xs.length : Int) := by simp at hl; omega
  have h6 : 2 < xs.length := by omega
  have hc := fun W => plist_number.calls s0 m W hn
  clear hn
  go_enter Tryz.func8, Tryz.ntmps8
  go_wp2_with (first | (go_at_call 30; refine (hS _ (be_al _ (Below.refl _ _) (Nat.le_refl _))).mono ?_; rintro e w' ⟨rfl, hb, qs, qw⟩; replace qs : w.heap.size + 1 < w'.heap.size := (by simpa using qs); have q0 : w'.cell? ⟨w.heap.size + 1, 0, none⟩ = some (.string s0) := (by simpa using qw 0 s0 hx0); have q1 : w'.cell? ⟨w.heap.size + 1, 1, none⟩ = some (.string s1) := (by simpa using qw 1 s1 hx1); have q2 : w'.cell? ⟨w.heap.size + 1, 2, none⟩ = some (.string s2) := (by simpa using qw 2 s2 hx2); have hg := be_keep hb (al_mine w 0 false 0 0 0 0); have QW := Aside0.mk (show ∀ (j : Nat) (s : ByteArray), xs[j]? = some s → w'.cell? ⟨w.heap.size + 1, j, none⟩ = some (.string s) from fun j s hj => by simpa using qw j s hj); clear qw) | (go_at_call 31; refine (hc _).mono ?_; rintro e w2 ⟨rfl, hb2⟩; have z0 := be_cell hb2 q0; have z1 := be_cell hb2 q1; have z2 := be_cell hb2 q2; have hg2 := be_keep hb2 hg; obtain ⟨r0, r1, r2, r3, r4, r5, f0, f1, f2, f3, f4, f5⟩ := rc_all hg2) | (go_at_call 32; refine (hA _ (be_go hb2 (be_go hb (be_al _ (Below.refl _ _) (Nat.le_refl _)) (Nat.le_refl _)) (Nat.le_refl _))).mono ?_; rintro e w3 ⟨rfl, hb3⟩; have hg3 := be_keep hb3 hg2))
  all_goals have v2 : (w3.alloc (.cells #[.int .u32 A, .int .i64 N] 24)).cell? ⟨w3.heap.size, 0, none⟩ = some (.int .u32 A) := (al_new rfl).trans rfl
  all_goals have v3 : (w3.alloc (.cells #[.int .u32 A, .int .i64 N] 24)).cell? ⟨w3.heap.size, 1, none⟩ = some (.int .i64 N) := (al_new rfl).trans rfl
  all_goals have y0 := be_cell hb3 z0
  all_goals have y1 := be_cell hb3 z1
  all_goals have v0 := (World.cell?_alloc_some w3 _ (.cells #[.int .u32 A, .int .i64 N] 24) (by rw [y0]; rfl)).trans y0
  all_goals have v1 := (World.cell?_alloc_some w3 _ (.cells #[.int .u32 A, .int .i64 N] 24) (by rw [y1]; rfl)).trans y1
  all_goals have vg := al_keep (.cells #[.int .u32 A, .int .i64 N] 24) hg3
  all_goals have vb : Below w.heap.size w (w3.alloc (.cells #[.int .u32 A, .int .i64 N] 24)) := by (repeat with_reducible first | exact Below.refl _ _ | apply Below.drew | refine be_al _ ?_ (Nat.le_refl _) | refine be_set _ _ ?_ (Nat.le_refl _) | refine be_go hb3 ?_ (Nat.le_refl _) | refine be_go hb2 ?_ (Nat.le_refl _) | refine be_go hb ?_ (Nat.le_refl _))
  all_goals have vq : Below w'.heap.size w' (w3.alloc (.cells #[.int .u32 A, .int .i64 N] 24)) := ((hb2.trans (hb3.mono hb2.size)).alloc (Nat.le_trans hb2.size hb3.size) _)
  all_goals have vs1 : w.heap.size + 1 < (w3.alloc (.cells #[.int .u32 A, .int .i64 N] 24)).heap.size := Nat.lt_of_lt_of_le qs vq.size
  all_goals have vs2 : w3.heap.size < (w3.alloc (.cells #[.int .u32 A, .int .i64 N] 24)).heap.size := by simp
  all_goals have QV := Aside0.mk (fun j s hj => be_cell vq (QW.out j s hj))
  all_goals clear hb hb2 hb3 z0 z1 z2 y0 y1 hg hg2 hg3 q0 q1 q2 r0 r1 r2 r3 r4 r5 f0 f1 f2 f3 f4 f5 QW vq
  all_goals generalize w3.alloc (.cells #[.int .u32 A, .int .i64 N] 24) = w5 at *
  all_goals have vn1 : w.heap.size + 1 ≠ w5.heap.size := Nat.ne_of_lt vs1
  all_goals have vn2 : w5.heap.size ≠ w.heap.size + 1 := vn1.symm
  all_goals have vn3 : w3.heap.size ≠ w5.heap.size := Nat.ne_of_lt vs2
  all_goals have vn4 : w5.heap.size ≠ w3.heap.size := vn3.symm
  all_goals go_region_held3 (fun W => W.cell? ⟨w.heap.size + 1, 0, none⟩ = some (.string s0) ∧ W.cell? ⟨w.heap.size + 1, 1, none⟩ = some (.string s1) ∧ W.cell? ⟨w3.heap.size, 0, none⟩ = some (.int .u32 A) ∧ W.cell? ⟨w3.heap.size, 1, none⟩ = some (.int .i64 N)) (go_keep) (first | (go_at_call 31; refine (hc _).mono ?_; rintro e w4 ⟨rfl, hb4⟩; (first | (have ordA : True := trivial; have h54 : Below w5.heap.size w5 w4 := ((Below.refl _ _).drew).trans hb4) | (have ordB : True := trivial; have h54 : Below w5.heap.size w5 w4 := (((Below.refl _ _).drew).alloc (Nat.le_refl _) _).trans (hb4.mono (by simp)); have hgx0 := (hb4.block w5.heap.size (by simp)).trans (al_mine w5.drew 0 false 0 0 0 0); obtain ⟨x0, x1, x2, x3, x4, x5, fx0, fx1, fx2, fx3, fx4, fx5⟩ := rc_all hgx0)); have j0 := be_cell h54 v0; have j1 := be_cell h54 v1; have j2 := be_cell h54 v2; have j3 := be_cell h54 v3; have js := Nat.lt_of_lt_of_le vs1 h54.size; have jt := Nat.lt_of_lt_of_le vs2 h54.size; have jz := h54.size))
  · have _t := ordA
    have HX : (w4.alloc (.cells #[.int .i64 m, .bool false, .int .u32 A, .int .i64 N, .int .i64 0, .int .i64 0] 26)).heap[w4.heap.size]? = some (ruleCells m false A N 0 0) := al_mine w4 m false A N 0 0
    have HG : (w4.alloc (.cells #[.int .i64 m, .bool false, .int .u32 A, .int .i64 N, .int .i64 0, .int .i64 0] 26)).heap[w.heap.size]? = some (ruleCells 0 false 0 0 0 0) := al_keep _ (be_keep h54 vg)
    have QW := Aside0.mk (fun (j : Nat) (s : ByteArray) (hj : xs[j]? = some s) => (show (w4.alloc (.cells #[.int .i64 m, .bool false, .int .u32 A, .int .i64 N, .int .i64 0, .int .i64 0] 26)).cell? ⟨w.heap.size + 1, j, none⟩ = some (.string s) from (World.cell?_alloc_lt w4 _ ⟨w.heap.size + 1, j, none⟩ js).trans (be_cell h54 (QV.out j s hj))))
    have B6 : Below w.heap.size w (w4.alloc (.cells #[.int .i64 m, .bool false, .int .u32 A, .int .i64 N, .int .i64 0, .int .i64 0] 26)) := be_al _ (be_go h54 vb (Nat.le_refl _)) (Nat.le_refl _)
    have gs : w4.heap.size < (w4.alloc (.cells #[.int .i64 m, .bool false, .int .u32 A, .int .i64 N, .int .i64 0, .int .i64 0] 26)).heap.size := by simp
    have gw : w.heap.size + 1 < w4.heap.size := js
    have bs : w.heap.size + 1 < (w4.alloc (.cells #[.int .i64 m, .bool false, .int .u32 A, .int .i64 N, .int .i64 0, .int .i64 0] 26)).heap.size := Nat.lt_trans gw gs
    clear ordA
    clear h54 vg vb hb4 v0 v1 v2 v3 vs1 vs2 vn1 vn2 vn3 vn4 QV j0 j1 j2 j3 js jt jz
    generalize w4.alloc (.cells #[.int .i64 m, .bool false, .int .u32 A, .int .i64 N, .int .i64 0, .int .i64 0] 26) = w6 at *
    generalize w4.heap.size = gx at *
    obtain ⟨r0, r1, r2, r3, r4, r5, f0, f1, f2, f3, f4, f5⟩ := rc_all HG
    go_wp2
    exact bodyPost_ret (results_ct rfl _ _ w.heap.size 26 _ (0, 0) _ rfl (set6 HG) Tryz.underlying26 rfl rfl) rfl ⟨rfl, set6_below B6 (Nat.le_refl _)⟩
  · have _t := ordB
    have HX : (((((((w4.setCell ⟨w5.heap.size, 0, none⟩ (.int .i64 m)).setCell ⟨w5.heap.size, 1, none⟩ (.bool false)).setCell ⟨w5.heap.size, 2, none⟩ (.int .u32 A)).setCell ⟨w5.heap.size, 3, none⟩ (.int .i64 N)).setCell ⟨w5.heap.size, 4, none⟩ (.int .i64 0)).setCell ⟨w5.heap.size, 5, none⟩ (.int .i64 0))).heap[w5.heap.size]? = some (ruleCells m false A N 0 0) := set6 hgx0
    have HG : (((((((w4.setCell ⟨w5.heap.size, 0, none⟩ (.int .i64 m)).setCell ⟨w5.heap.size, 1, none⟩ (.bool false)).setCell ⟨w5.heap.size, 2, none⟩ (.int .u32 A)).setCell ⟨w5.heap.size, 3, none⟩ (.int .i64 N)).setCell ⟨w5.heap.size, 4, none⟩ (.int .i64 0)).setCell ⟨w5.heap.size, 5, none⟩ (.int .i64 0))).heap[w.heap.size]? = some (ruleCells 0 false 0 0 0 0) := (set6_far (by omega)).trans (be_keep h54 vg)
    have QW := Aside0.mk (fun (j : Nat) (s : ByteArray) (hj : xs[j]? = some s) => (show (((((((w4.setCell ⟨w5.heap.size, 0, none⟩ (.int .i64 m)).setCell ⟨w5.heap.size, 1, none⟩ (.bool false)).setCell ⟨w5.heap.size, 2, none⟩ (.int .u32 A)).setCell ⟨w5.heap.size, 3, none⟩ (.int .i64 N)).setCell ⟨w5.heap.size, 4, none⟩ (.int .i64 0)).setCell ⟨w5.heap.size, 5, none⟩ (.int .i64 0))).cell? ⟨w.heap.size + 1, j, none⟩ = some (.string s) from (World.cell?_of_block (set6_far (by omega))).trans (be_cell h54 (QV.out j s hj))))
    have B6 : Below w.heap.size w (((((((w4.setCell ⟨w5.heap.size, 0, none⟩ (.int .i64 m)).setCell ⟨w5.heap.size, 1, none⟩ (.bool false)).setCell ⟨w5.heap.size, 2, none⟩ (.int .u32 A)).setCell ⟨w5.heap.size, 3, none⟩ (.int .i64 N)).setCell ⟨w5.heap.size, 4, none⟩ (.int .i64 0)).setCell ⟨w5.heap.size, 5, none⟩ (.int .i64 0))) := set6_below (be_go h54 vb (Nat.le_refl _)) (by omega)
    have gs : w5.heap.size < (((((((w4.setCell ⟨w5.heap.size, 0, none⟩ (.int .i64 m)).setCell ⟨w5.heap.size, 1, none⟩ (.bool false)).setCell ⟨w5.heap.size, 2, none⟩ (.int .u32 A)).setCell ⟨w5.heap.size, 3, none⟩ (.int .i64 N)).setCell ⟨w5.heap.size, 4, none⟩ (.int .i64 0)).setCell ⟨w5.heap.size, 5, none⟩ (.int .i64 0))).heap.size := by have q := blk_lt hgx0; simpa [World.setCell] using q
    have gw : w.heap.size + 1 < w5.heap.size := vs1
    have bs : w.heap.size + 1 < (((((((w4.setCell ⟨w5.heap.size, 0, none⟩ (.int .i64 m)).setCell ⟨w5.heap.size, 1, none⟩ (.bool false)).setCell ⟨w5.heap.size, 2, none⟩ (.int .u32 A)).setCell ⟨w5.heap.size, 3, none⟩ (.int .i64 N)).setCell ⟨w5.heap.size, 4, none⟩ (.int .i64 0)).setCell ⟨w5.heap.size, 5, none⟩ (.int .i64 0))).heap.size := Nat.lt_trans gw gs
    clear ordB hgx0 x0 x1 x2 x3 x4 x5 fx0 fx1 fx2 fx3 fx4 fx5
    clear h54 vg vb hb4 v0 v1 v2 v3 vs1 vs2 vn1 vn2 vn3 vn4 QV j0 j1 j2 j3 js jt jz
    generalize ((((((w4.setCell ⟨w5.heap.size, 0, none⟩ (.int .i64 m)).setCell ⟨w5.heap.size, 1, none⟩ (.bool false)).setCell ⟨w5.heap.size, 2, none⟩ (.int .u32 A)).setCell ⟨w5.heap.size, 3, none⟩ (.int .i64 N)).setCell ⟨w5.heap.size, 4, none⟩ (.int .i64 0)).setCell ⟨w5.heap.size, 5, none⟩ (.int .i64 0)) = w6 at *
    generalize w5.heap.size = gx at *
    obtain ⟨r0, r1, r2, r3, r4, r5, f0, f1, f2, f3, f4, f5⟩ := rc_all HG
    go_wp2
    exact bodyPost_ret (results_ct rfl _ _ w.heap.size 26 _ (0, 0) _ rfl (set6 HG) Tryz.underlying26 rfl rfl) rfl ⟨rfl, set6_below B6 (Nat.le_refl _)⟩
end Go.Proofs.YthngpkfckhmiiaaGreatDoor.X
end
section
set_option linter.unusedVariables false
set_option linter.unusedSimpArgs false
namespace Go.Proofs.YthngpkfckhmiiaaGreatDoor.X
open Go.RowKit Go.Proofs.YthngpkfckhmiiaaGreatDoorW.PrintWords Go.Proofs.YthngpkfckhmiiaaGreatDoor.Sl
set_option maxRecDepth 20000 in
set_option maxHeartbeats 4000000 in
theorem parse_l3_true (a0 : ByteArray) (xs : List ByteArray) (w : World) (s0 s1 s2 : ByteArray) (m : Int) (hx0 : xs[0]? = some s0) (hx1 : xs[1]? = some s1) (hx2 : xs[2]? = some s2)
    (hS : ∀ W : World, Below w.heap.size w W → Calls Tryz.prog 30 #[.string a0, .string ⟨#[32]⟩] W fun e w' => e = .returned (.slice (some ⟨W.heap.size, 0, none⟩) xs.length xs.length) ∧ Words W w' xs) (hl : decide ((xs.length : Int) < 3) = false)
    (hn : plist_number.f s0 = some m) (hm : (m == 0) = false) (hs1 : (s1.toList == [112, 101, 114, 109, 105, 116]) = true)  (A N e3 : Int)
    (hA : ∀ W : World, Below w.heap.size w W → Calls Tryz.prog 32 #[.string s2] W fun e w' => e = .returned (.tuple #[.agg #[.int .u32 A, .int .i64 N], .int .i64 e3]) ∧ Below W.heap.size W w') (he : (e3 == 3) = false) (ge le : Int) (hx3 : xs.length = 3) (hL : ∀ (W : World) (gx : Nat), W.heap[gx]? = some (ruleCells m true A N 0 0) → (∀ (j : Nat) (s : ByteArray), xs[j]? = some s → W.cell? ⟨w.heap.size + 1, j, none⟩ = some (.string s)) → w.heap.size + 1 < gx →
      Calls Tryz.prog 33 #[.pointer (some ⟨gx, 0, none⟩), .slice (some ⟨w.heap.size + 1, 0, none⟩) 0 0] W fun e w' => LimPost gx m true A N ge le false W e w') :
    Calls Tryz.prog 8 #[.string a0] w fun e w' => e = .returned (.tuple #[.agg #[.int .i64 0, .bool false, .int .u32 0, .int .i64 0, .int .i64 0, .int .i64 0], .int .i64 3]) ∧ Below w.heap.size w w' := by
  have h0 : 0 < (xs.length : Int) := by simp at hl; omega
  have h1 : 1 < (xs.length : Int) := by simp at hl; omega
  have h2 : 0 < xs.length := by omega
  have h3 : 1 < xs.length := by omega
  have h4 : ¬ (xs.length : Int) < 3 := by simp at hl; omega
  have h5 : 2 < (xs.length : Int) := by simp at hl; omega
  have h6 : 2 < xs.length := by omega
  have hc := fun W => plist_number.calls s0 m W hn
  clear hn
  have h3z : (3 : Int) ≤ (xs.length : Int) := by simp at hl; omega
  have HL := Aside0.mk hL
  clear hL
  go_enter Tryz.func8, Tryz.ntmps8
  go_wp2_with (first | (go_at_call 30; refine (hS _ (be_al _ (Below.refl _ _) (Nat.le_refl _))).mono ?_; rintro e w' ⟨rfl, hb, qs, qw⟩; replace qs : w.heap.size + 1 < w'.heap.size := (by simpa using qs); have q0 : w'.cell? ⟨w.heap.size + 1, 0, none⟩ = some (.string s0) := (by simpa using qw 0 s0 hx0); have q1 : w'.cell? ⟨w.heap.size + 1, 1, none⟩ = some (.string s1) := (by simpa using qw 1 s1 hx1); have q2 : w'.cell? ⟨w.heap.size + 1, 2, none⟩ = some (.string s2) := (by simpa using qw 2 s2 hx2); have hg := be_keep hb (al_mine w 0 false 0 0 0 0); have QW := Aside0.mk (show ∀ (j : Nat) (s : ByteArray), xs[j]? = some s → w'.cell? ⟨w.heap.size + 1, j, none⟩ = some (.string s) from fun j s hj => by simpa using qw j s hj); clear qw) | (go_at_call 31; refine (hc _).mono ?_; rintro e w2 ⟨rfl, hb2⟩; have z0 := be_cell hb2 q0; have z1 := be_cell hb2 q1; have z2 := be_cell hb2 q2; have hg2 := be_keep hb2 hg; obtain ⟨r0, r1, r2, r3, r4, r5, f0, f1, f2, f3, f4, f5⟩ := rc_all hg2) | (go_at_call 32; refine (hA _ (be_go hb2 (be_go hb (be_al _ (Below.refl _ _) (Nat.le_refl _)) (Nat.le_refl _)) (Nat.le_refl _))).mono ?_; rintro e w3 ⟨rfl, hb3⟩; have hg3 := be_keep hb3 hg2))
  all_goals have v2 : (w3.alloc (.cells #[.int .u32 A, .int .i64 N] 24)).cell? ⟨w3.heap.size, 0, none⟩ = some (.int .u32 A) := (al_new rfl).trans rfl
  all_goals have v3 : (w3.alloc (.cells #[.int .u32 A, .int .i64 N] 24)).cell? ⟨w3.heap.size, 1, none⟩ = some (.int .i64 N) := (al_new rfl).trans rfl
  all_goals have y0 := be_cell hb3 z0
  all_goals have y1 := be_cell hb3 z1
  all_goals have v0 := (World.cell?_alloc_some w3 _ (.cells #[.int .u32 A, .int .i64 N] 24) (by rw [y0]; rfl)).trans y0
  all_goals have v1 := (World.cell?_alloc_some w3 _ (.cells #[.int .u32 A, .int .i64 N] 24) (by rw [y1]; rfl)).trans y1
  all_goals have vg := al_keep (.cells #[.int .u32 A, .int .i64 N] 24) hg3
  all_goals have vb : Below w.heap.size w (w3.alloc (.cells #[.int .u32 A, .int .i64 N] 24)) := by (repeat with_reducible first | exact Below.refl _ _ | apply Below.drew | refine be_al _ ?_ (Nat.le_refl _) | refine be_set _ _ ?_ (Nat.le_refl _) | refine be_go hb3 ?_ (Nat.le_refl _) | refine be_go hb2 ?_ (Nat.le_refl _) | refine be_go hb ?_ (Nat.le_refl _))
  all_goals have vq : Below w'.heap.size w' (w3.alloc (.cells #[.int .u32 A, .int .i64 N] 24)) := ((hb2.trans (hb3.mono hb2.size)).alloc (Nat.le_trans hb2.size hb3.size) _)
  all_goals have vs1 : w.heap.size + 1 < (w3.alloc (.cells #[.int .u32 A, .int .i64 N] 24)).heap.size := Nat.lt_of_lt_of_le qs vq.size
  all_goals have vs2 : w3.heap.size < (w3.alloc (.cells #[.int .u32 A, .int .i64 N] 24)).heap.size := by simp
  all_goals have QV := Aside0.mk (fun j s hj => be_cell vq (QW.out j s hj))
  all_goals clear hb hb2 hb3 z0 z1 z2 y0 y1 hg hg2 hg3 q0 q1 q2 r0 r1 r2 r3 r4 r5 f0 f1 f2 f3 f4 f5 QW vq
  all_goals generalize w3.alloc (.cells #[.int .u32 A, .int .i64 N] 24) = w5 at *
  all_goals have vn1 : w.heap.size + 1 ≠ w5.heap.size := Nat.ne_of_lt vs1
  all_goals have vn2 : w5.heap.size ≠ w.heap.size + 1 := vn1.symm
  all_goals have vn3 : w3.heap.size ≠ w5.heap.size := Nat.ne_of_lt vs2
  all_goals have vn4 : w5.heap.size ≠ w3.heap.size := vn3.symm
  all_goals go_region_held3 (fun W => W.cell? ⟨w.heap.size + 1, 0, none⟩ = some (.string s0) ∧ W.cell? ⟨w.heap.size + 1, 1, none⟩ = some (.string s1) ∧ W.cell? ⟨w3.heap.size, 0, none⟩ = some (.int .u32 A) ∧ W.cell? ⟨w3.heap.size, 1, none⟩ = some (.int .i64 N)) (go_keep) (first | (go_at_call 31; refine (hc _).mono ?_; rintro e w4 ⟨rfl, hb4⟩; (first | (have ordA : True := trivial; have h54 : Below w5.heap.size w5 w4 := ((Below.refl _ _).drew).trans hb4) | (have ordB : True := trivial; have h54 : Below w5.heap.size w5 w4 := (((Below.refl _ _).drew).alloc (Nat.le_refl _) _).trans (hb4.mono (by simp)); have hgx0 := (hb4.block w5.heap.size (by simp)).trans (al_mine w5.drew 0 false 0 0 0 0); obtain ⟨x0, x1, x2, x3, x4, x5, fx0, fx1, fx2, fx3, fx4, fx5⟩ := rc_all hgx0)); have j0 := be_cell h54 v0; have j1 := be_cell h54 v1; have j2 := be_cell h54 v2; have j3 := be_cell h54 v3; have js := Nat.lt_of_lt_of_le vs1 h54.size; have jt := Nat.lt_of_lt_of_le vs2 h54.size; have jz := h54.size))
  · have _t := ordA
    have HX : (w4.alloc (.cells #[.int .i64 m, .bool true, .int .u32 A, .int .i64 N, .int .i64 0, .int .i64 0] 26)).heap[w4.heap.size]? = some (ruleCells m true A N 0 0) := al_mine w4 m true A N 0 0
    have HG : (w4.alloc (.cells #[.int .i64 m, .bool true, .int .u32 A, .int .i64 N, .int .i64 0, .int .i64 0] 26)).heap[w.heap.size]? = some (ruleCells 0 false 0 0 0 0) := al_keep _ (be_keep h54 vg)
    have QW := Aside0.mk (fun (j : Nat) (s : ByteArray) (hj : xs[j]? = some s) => (show (w4.alloc (.cells #[.int .i64 m, .bool true, .int .u32 A, .int .i64 N, .int .i64 0, .int .i64 0] 26)).cell? ⟨w.heap.size + 1, j, none⟩ = some (.string s) from (World.cell?_alloc_lt w4 _ ⟨w.heap.size + 1, j, none⟩ js).trans (be_cell h54 (QV.out j s hj))))
    have B6 : Below w.heap.size w (w4.alloc (.cells #[.int .i64 m, .bool true, .int .u32 A, .int .i64 N, .int .i64 0, .int .i64 0] 26)) := be_al _ (be_go h54 vb (Nat.le_refl _)) (Nat.le_refl _)
    have gs : w4.heap.size < (w4.alloc (.cells #[.int .i64 m, .bool true, .int .u32 A, .int .i64 N, .int .i64 0, .int .i64 0] 26)).heap.size := by simp
    have gw : w.heap.size + 1 < w4.heap.size := js
    have bs : w.heap.size + 1 < (w4.alloc (.cells #[.int .i64 m, .bool true, .int .u32 A, .int .i64 N, .int .i64 0, .int .i64 0] 26)).heap.size := Nat.lt_trans gw gs
    clear ordA
    clear h54 vg vb hb4 v0 v1 v2 v3 vs1 vs2 vn1 vn2 vn3 vn4 QV j0 j1 j2 j3 js jt jz
    generalize w4.alloc (.cells #[.int .i64 m, .bool true, .int .u32 A, .int .i64 N, .int .i64 0, .int .i64 0] 26) = w6 at *
    generalize w4.heap.size = gx at *
    obtain ⟨r0, r1, r2, r3, r4, r5, f0, f1, f2, f3, f4, f5⟩ := rc_all HG
    go_wp2_with (go_at_call 33; refine (HL.out _ gx HX QW.out gw).mono ?_; rintro e w7 ⟨rfl, hx7, hb7⟩; have hg7 := (hb7.block w.heap.size (by omega)).trans HG; have B7 : Below w.heap.size w w7 := B6.trans (hb7.mono (by omega)); clear r0 r1 r2 r3 r4 r5 f0 f1 f2 f3 f4 f5; obtain ⟨r0, r1, r2, r3, r4, r5, f0, f1, f2, f3, f4, f5⟩ := rc_all hg7; obtain ⟨x0, x1, x2, x3, x4, x5, y0, y1, y2, y3, y4, y5⟩ := rc_all hx7)
    exact bodyPost_ret (results_ct rfl _ _ w.heap.size 26 _ (0, 0) _ rfl (set6 hg7) Tryz.underlying26 rfl rfl) rfl ⟨rfl, set6_below B7 (Nat.le_refl _)⟩
  · have _t := ordB
    have HX : (((((((w4.setCell ⟨w5.heap.size, 0, none⟩ (.int .i64 m)).setCell ⟨w5.heap.size, 1, none⟩ (.bool true)).setCell ⟨w5.heap.size, 2, none⟩ (.int .u32 A)).setCell ⟨w5.heap.size, 3, none⟩ (.int .i64 N)).setCell ⟨w5.heap.size, 4, none⟩ (.int .i64 0)).setCell ⟨w5.heap.size, 5, none⟩ (.int .i64 0))).heap[w5.heap.size]? = some (ruleCells m true A N 0 0) := set6 hgx0
    have HG : (((((((w4.setCell ⟨w5.heap.size, 0, none⟩ (.int .i64 m)).setCell ⟨w5.heap.size, 1, none⟩ (.bool true)).setCell ⟨w5.heap.size, 2, none⟩ (.int .u32 A)).setCell ⟨w5.heap.size, 3, none⟩ (.int .i64 N)).setCell ⟨w5.heap.size, 4, none⟩ (.int .i64 0)).setCell ⟨w5.heap.size, 5, none⟩ (.int .i64 0))).heap[w.heap.size]? = some (ruleCells 0 false 0 0 0 0) := (set6_far (by omega)).trans (be_keep h54 vg)
    have QW := Aside0.mk (fun (j : Nat) (s : ByteArray) (hj : xs[j]? = some s) => (show (((((((w4.setCell ⟨w5.heap.size, 0, none⟩ (.int .i64 m)).setCell ⟨w5.heap.size, 1, none⟩ (.bool true)).setCell ⟨w5.heap.size, 2, none⟩ (.int .u32 A)).setCell ⟨w5.heap.size, 3, none⟩ (.int .i64 N)).setCell ⟨w5.heap.size, 4, none⟩ (.int .i64 0)).setCell ⟨w5.heap.size, 5, none⟩ (.int .i64 0))).cell? ⟨w.heap.size + 1, j, none⟩ = some (.string s) from (World.cell?_of_block (set6_far (by omega))).trans (be_cell h54 (QV.out j s hj))))
    have B6 : Below w.heap.size w (((((((w4.setCell ⟨w5.heap.size, 0, none⟩ (.int .i64 m)).setCell ⟨w5.heap.size, 1, none⟩ (.bool true)).setCell ⟨w5.heap.size, 2, none⟩ (.int .u32 A)).setCell ⟨w5.heap.size, 3, none⟩ (.int .i64 N)).setCell ⟨w5.heap.size, 4, none⟩ (.int .i64 0)).setCell ⟨w5.heap.size, 5, none⟩ (.int .i64 0))) := set6_below (be_go h54 vb (Nat.le_refl _)) (by omega)
    have gs : w5.heap.size < (((((((w4.setCell ⟨w5.heap.size, 0, none⟩ (.int .i64 m)).setCell ⟨w5.heap.size, 1, none⟩ (.bool true)).setCell ⟨w5.heap.size, 2, none⟩ (.int .u32 A)).setCell ⟨w5.heap.size, 3, none⟩ (.int .i64 N)).setCell ⟨w5.heap.size, 4, none⟩ (.int .i64 0)).setCell ⟨w5.heap.size, 5, none⟩ (.int .i64 0))).heap.size := by have q := blk_lt hgx0; simpa [World.setCell] using q
    have gw : w.heap.size + 1 < w5.heap.size := vs1
    have bs : w.heap.size + 1 < (((((((w4.setCell ⟨w5.heap.size, 0, none⟩ (.int .i64 m)).setCell ⟨w5.heap.size, 1, none⟩ (.bool true)).setCell ⟨w5.heap.size, 2, none⟩ (.int .u32 A)).setCell ⟨w5.heap.size, 3, none⟩ (.int .i64 N)).setCell ⟨w5.heap.size, 4, none⟩ (.int .i64 0)).setCell ⟨w5.heap.size, 5, none⟩ (.int .i64 0))).heap.size := Nat.lt_trans gw gs
    clear ordB hgx0 x0 x1 x2 x3 x4 x5 fx0 fx1 fx2 fx3 fx4 fx5
    clear h54 vg vb hb4 v0 v1 v2 v3 vs1 vs2 vn1 vn2 vn3 vn4 QV j0 j1 j2 j3 js jt jz
    generalize ((((((w4.setCell ⟨w5.heap.size, 0, none⟩ (.int .i64 m)).setCell ⟨w5.heap.size, 1, none⟩ (.bool true)).setCell ⟨w5.heap.size, 2, none⟩ (.int .u32 A)).setCell ⟨w5.heap.size, 3, none⟩ (.int .i64 N)).setCell ⟨w5.heap.size, 4, none⟩ (.int .i64 0)).setCell ⟨w5.heap.size, 5, none⟩ (.int .i64 0)) = w6 at *
    generalize w5.heap.size = gx at *
    obtain ⟨r0, r1, r2, r3, r4, r5, f0, f1, f2, f3, f4, f5⟩ := rc_all HG
    go_wp2_with (go_at_call 33; refine (HL.out _ gx HX QW.out gw).mono ?_; rintro e w7 ⟨rfl, hx7, hb7⟩; have hg7 := (hb7.block w.heap.size (by omega)).trans HG; have B7 : Below w.heap.size w w7 := B6.trans (hb7.mono (by omega)); clear r0 r1 r2 r3 r4 r5 f0 f1 f2 f3 f4 f5; obtain ⟨r0, r1, r2, r3, r4, r5, f0, f1, f2, f3, f4, f5⟩ := rc_all hg7; obtain ⟨x0, x1, x2, x3, x4, x5, y0, y1, y2, y3, y4, y5⟩ := rc_all hx7)
    exact bodyPost_ret (results_ct rfl _ _ w.heap.size 26 _ (0, 0) _ rfl (set6 hg7) Tryz.underlying26 rfl rfl) rfl ⟨rfl, set6_below B7 (Nat.le_refl _)⟩
set_option maxRecDepth 20000 in
set_option maxHeartbeats 4000000 in
theorem parse_l3_false (a0 : ByteArray) (xs : List ByteArray) (w : World) (s0 s1 s2 : ByteArray) (m : Int) (hx0 : xs[0]? = some s0) (hx1 : xs[1]? = some s1) (hx2 : xs[2]? = some s2)
    (hS : ∀ W : World, Below w.heap.size w W → Calls Tryz.prog 30 #[.string a0, .string ⟨#[32]⟩] W fun e w' => e = .returned (.slice (some ⟨W.heap.size, 0, none⟩) xs.length xs.length) ∧ Words W w' xs) (hl : decide ((xs.length : Int) < 3) = false)
    (hn : plist_number.f s0 = some m) (hm : (m == 0) = false) (hs1 : (s1.toList == [112, 101, 114, 109, 105, 116]) = false) (hs3 : (s1.toList == [100, 101, 110, 121]) = true) (A N e3 : Int)
    (hA : ∀ W : World, Below w.heap.size w W → Calls Tryz.prog 32 #[.string s2] W fun e w' => e = .returned (.tuple #[.agg #[.int .u32 A, .int .i64 N], .int .i64 e3]) ∧ Below W.heap.size W w') (he : (e3 == 3) = false) (ge le : Int) (hx3 : xs.length = 3) (hL : ∀ (W : World) (gx : Nat), W.heap[gx]? = some (ruleCells m false A N 0 0) → (∀ (j : Nat) (s : ByteArray), xs[j]? = some s → W.cell? ⟨w.heap.size + 1, j, none⟩ = some (.string s)) → w.heap.size + 1 < gx →
      Calls Tryz.prog 33 #[.pointer (some ⟨gx, 0, none⟩), .slice (some ⟨w.heap.size + 1, 0, none⟩) 0 0] W fun e w' => LimPost gx m false A N ge le false W e w') :
    Calls Tryz.prog 8 #[.string a0] w fun e w' => e = .returned (.tuple #[.agg #[.int .i64 0, .bool false, .int .u32 0, .int .i64 0, .int .i64 0, .int .i64 0], .int .i64 3]) ∧ Below w.heap.size w w' := by
  have h0 : 0 < (xs.length : Int) := by simp at hl; omega
  have h1 : 1 < (xs.length : Int) := by simp at hl; omega
  have h2 : 0 < xs.length := by omega
  have h3 : 1 < xs.length := by omega
  have h4 : ¬ (xs.length : Int) < 3 := by simp at hl; omega
  have h5 : 2 < (xs.length : Int) := by simp at hl; omega
  have h6 : 2 < xs.length := by omega
  have hc := fun W => plist_number.calls s0 m W hn
  clear hn
  have h3z : (3 : Int) ≤ (xs.length : Int) := by simp at hl; omega
  have HL := Aside0.mk hL
  clear hL
  go_enter Tryz.func8, Tryz.ntmps8
  go_wp2_with (first | (go_at_call 30; refine (hS _ (be_al _ (Below.refl _ _) (Nat.le_refl _))).mono ?_; rintro e w' ⟨rfl, hb, qs, qw⟩; replace qs : w.heap.size + 1 < w'.heap.size := (by simpa using qs); have q0 : w'.cell? ⟨w.heap.size + 1, 0, none⟩ = some (.string s0) := (by simpa using qw 0 s0 hx0); have q1 : w'.cell? ⟨w.heap.size + 1, 1, none⟩ = some (.string s1) := (by simpa using qw 1 s1 hx1); have q2 : w'.cell? ⟨w.heap.size + 1, 2, none⟩ = some (.string s2) := (by simpa using qw 2 s2 hx2); have hg := be_keep hb (al_mine w 0 false 0 0 0 0); have QW := Aside0.mk (show ∀ (j : Nat) (s : ByteArray), xs[j]? = some s → w'.cell? ⟨w.heap.size + 1, j, none⟩ = some (.string s) from fun j s hj => by simpa using qw j s hj); clear qw) | (go_at_call 31; refine (hc _).mono ?_; rintro e w2 ⟨rfl, hb2⟩; have z0 := be_cell hb2 q0; have z1 := be_cell hb2 q1; have z2 := be_cell hb2 q2; have hg2 := be_keep hb2 hg; obtain ⟨r0, r1, r2, r3, r4, r5, f0, f1, f2, f3, f4, f5⟩ := rc_all hg2) | (go_at_call 32; refine (hA _ (be_go hb2 (be_go hb (be_al _ (Below.refl _ _) (Nat.le_refl _)) (Nat.le_refl _)) (Nat.le_refl _))).mono ?_; rintro e w3 ⟨rfl, hb3⟩; have hg3 := be_keep hb3 hg2))
  all_goals have v2 : (w3.alloc (.cells #[.int .u32 A, .int .i64 N] 24)).cell? ⟨w3.heap.size, 0, none⟩ = some (.int .u32 A) := (al_new rfl).trans rfl
  all_goals have v3 : (w3.alloc (.cells #[.int .u32 A, .int .i64 N] 24)).cell? ⟨w3.heap.size, 1, none⟩ = some (.int .i64 N) := (al_new rfl).trans rfl
  all_goals have y0 := be_cell hb3 z0
  all_goals have y1 := be_cell hb3 z1
  all_goals have v0 := (World.cell?_alloc_some w3 _ (.cells #[.int .u32 A, .int .i64 N] 24) (by rw [y0]; rfl)).trans y0
  all_goals have v1 := (World.cell?_alloc_some w3 _ (.cells #[.int .u32 A, .int .i64 N] 24) (by rw [y1]; rfl)).trans y1
  all_goals have vg := al_keep (.cells #[.int .u32 A, .int .i64 N] 24) hg3
  all_goals have vb : Below w.heap.size w (w3.alloc (.cells #[.int .u32 A, .int .i64 N] 24)) := by (repeat with_reducible first | exact Below.refl _ _ | apply Below.drew | refine be_al _ ?_ (Nat.le_refl _) | refine be_set _ _ ?_ (Nat.le_refl _) | refine be_go hb3 ?_ (Nat.le_refl _) | refine be_go hb2 ?_ (Nat.le_refl _) | refine be_go hb ?_ (Nat.le_refl _))
  all_goals have vq : Below w'.heap.size w' (w3.alloc (.cells #[.int .u32 A, .int .i64 N] 24)) := ((hb2.trans (hb3.mono hb2.size)).alloc (Nat.le_trans hb2.size hb3.size) _)
  all_goals have vs1 : w.heap.size + 1 < (w3.alloc (.cells #[.int .u32 A, .int .i64 N] 24)).heap.size := Nat.lt_of_lt_of_le qs vq.size
  all_goals have vs2 : w3.heap.size < (w3.alloc (.cells #[.int .u32 A, .int .i64 N] 24)).heap.size := by simp
  all_goals have QV := Aside0.mk (fun j s hj => be_cell vq (QW.out j s hj))
  all_goals clear hb hb2 hb3 z0 z1 z2 y0 y1 hg hg2 hg3 q0 q1 q2 r0 r1 r2 r3 r4 r5 f0 f1 f2 f3 f4 f5 QW vq
  all_goals generalize w3.alloc (.cells #[.int .u32 A, .int .i64 N] 24) = w5 at *
  all_goals have vn1 : w.heap.size + 1 ≠ w5.heap.size := Nat.ne_of_lt vs1
  all_goals have vn2 : w5.heap.size ≠ w.heap.size + 1 := vn1.symm
  all_goals have vn3 : w3.heap.size ≠ w5.heap.size := Nat.ne_of_lt vs2
  all_goals have vn4 : w5.heap.size ≠ w3.heap.size := vn3.symm
  all_goals go_region_held3 (fun W => W.cell? ⟨w.heap.size + 1, 0, none⟩ = some (.string s0) ∧ W.cell? ⟨w.heap.size + 1, 1, none⟩ = some (.string s1) ∧ W.cell? ⟨w3.heap.size, 0, none⟩ = some (.int .u32 A) ∧ W.cell? ⟨w3.heap.size, 1, none⟩ = some (.int .i64 N)) (go_keep) (first | (go_at_call 31; refine (hc _).mono ?_; rintro e w4 ⟨rfl, hb4⟩; (first | (have ordA : True := trivial; have h54 : Below w5.heap.size w5 w4 := ((Below.refl _ _).drew).trans hb4) | (have ordB : True := trivial; have h54 : Below w5.heap.size w5 w4 := (((Below.refl _ _).drew).alloc (Nat.le_refl _) _).trans (hb4.mono (by simp)); have hgx0 := (hb4.block w5.heap.size (by simp)).trans (al_mine w5.drew 0 false 0 0 0 0); obtain ⟨x0, x1, x2, x3, x4, x5, fx0, fx1, fx2, fx3, fx4, fx5⟩ := rc_all hgx0)); have j0 := be_cell h54 v0; have j1 := be_cell h54 v1; have j2 := be_cell h54 v2; have j3 := be_cell h54 v3; have js := Nat.lt_of_lt_of_le vs1 h54.size; have jt := Nat.lt_of_lt_of_le vs2 h54.size; have jz := h54.size))
  · have _t := ordA
    have HX : (w4.alloc (.cells #[.int .i64 m, .bool false, .int .u32 A, .int .i64 N, .int .i64 0, .int .i64 0] 26)).heap[w4.heap.size]? = some (ruleCells m false A N 0 0) := al_mine w4 m false A N 0 0
    have HG : (w4.alloc (.cells #[.int .i64 m, .bool false, .int .u32 A, .int .i64 N, .int .i64 0, .int .i64 0] 26)).heap[w.heap.size]? = some (ruleCells 0 false 0 0 0 0) := al_keep _ (be_keep h54 vg)
    have QW := Aside0.mk (fun (j : Nat) (s : ByteArray) (hj : xs[j]? = some s) => (show (w4.alloc (.cells #[.int .i64 m, .bool false, .int .u32 A, .int .i64 N, .int .i64 0, .int .i64 0] 26)).cell? ⟨w.heap.size + 1, j, none⟩ = some (.string s) from (World.cell?_alloc_lt w4 _ ⟨w.heap.size + 1, j, none⟩ js).trans (be_cell h54 (QV.out j s hj))))
    have B6 : Below w.heap.size w (w4.alloc (.cells #[.int .i64 m, .bool false, .int .u32 A, .int .i64 N, .int .i64 0, .int .i64 0] 26)) := be_al _ (be_go h54 vb (Nat.le_refl _)) (Nat.le_refl _)
    have gs : w4.heap.size < (w4.alloc (.cells #[.int .i64 m, .bool false, .int .u32 A, .int .i64 N, .int .i64 0, .int .i64 0] 26)).heap.size := by simp
    have gw : w.heap.size + 1 < w4.heap.size := js
    have bs : w.heap.size + 1 < (w4.alloc (.cells #[.int .i64 m, .bool false, .int .u32 A, .int .i64 N, .int .i64 0, .int .i64 0] 26)).heap.size := Nat.lt_trans gw gs
    clear ordA
    clear h54 vg vb hb4 v0 v1 v2 v3 vs1 vs2 vn1 vn2 vn3 vn4 QV j0 j1 j2 j3 js jt jz
    generalize w4.alloc (.cells #[.int .i64 m, .bool false, .int .u32 A, .int .i64 N, .int .i64 0, .int .i64 0] 26) = w6 at *
    generalize w4.heap.size = gx at *
    obtain ⟨r0, r1, r2, r3, r4, r5, f0, f1, f2, f3, f4, f5⟩ := rc_all HG
    go_wp2_with (go_at_call 33; refine (HL.out _ gx HX QW.out gw).mono ?_; rintro e w7 ⟨rfl, hx7, hb7⟩; have hg7 := (hb7.block w.heap.size (by omega)).trans HG; have B7 : Below w.heap.size w w7 := B6.trans (hb7.mono (by omega)); clear r0 r1 r2 r3 r4 r5 f0 f1 f2 f3 f4 f5; obtain ⟨r0, r1, r2, r3, r4, r5, f0, f1, f2, f3, f4, f5⟩ := rc_all hg7; obtain ⟨x0, x1, x2, x3, x4, x5, y0, y1, y2, y3, y4, y5⟩ := rc_all hx7)
    exact bodyPost_ret (results_ct rfl _ _ w.heap.size 26 _ (0, 0) _ rfl (set6 hg7) Tryz.underlying26 rfl rfl) rfl ⟨rfl, set6_below B7 (Nat.le_refl _)⟩
  · have _t := ordB
    have HX : (((((((w4.setCell ⟨w5.heap.size, 0, none⟩ (.int .i64 m)).setCell ⟨w5.heap.size, 1, none⟩ (.bool false)).setCell ⟨w5.heap.size, 2, none⟩ (.int .u32 A)).setCell ⟨w5.heap.size, 3, none⟩ (.int .i64 N)).setCell ⟨w5.heap.size, 4, none⟩ (.int .i64 0)).setCell ⟨w5.heap.size, 5, none⟩ (.int .i64 0))).heap[w5.heap.size]? = some (ruleCells m false A N 0 0) := set6 hgx0
    have HG : (((((((w4.setCell ⟨w5.heap.size, 0, none⟩ (.int .i64 m)).setCell ⟨w5.heap.size, 1, none⟩ (.bool false)).setCell ⟨w5.heap.size, 2, none⟩ (.int .u32 A)).setCell ⟨w5.heap.size, 3, none⟩ (.int .i64 N)).setCell ⟨w5.heap.size, 4, none⟩ (.int .i64 0)).setCell ⟨w5.heap.size, 5, none⟩ (.int .i64 0))).heap[w.heap.size]? = some (ruleCells 0 false 0 0 0 0) := (set6_far (by omega)).trans (be_keep h54 vg)
    have QW := Aside0.mk (fun (j : Nat) (s : ByteArray) (hj : xs[j]? = some s) => (show (((((((w4.setCell ⟨w5.heap.size, 0, none⟩ (.int .i64 m)).setCell ⟨w5.heap.size, 1, none⟩ (.bool false)).setCell ⟨w5.heap.size, 2, none⟩ (.int .u32 A)).setCell ⟨w5.heap.size, 3, none⟩ (.int .i64 N)).setCell ⟨w5.heap.size, 4, none⟩ (.int .i64 0)).setCell ⟨w5.heap.size, 5, none⟩ (.int .i64 0))).cell? ⟨w.heap.size + 1, j, none⟩ = some (.string s) from (World.cell?_of_block (set6_far (by omega))).trans (be_cell h54 (QV.out j s hj))))
    have B6 : Below w.heap.size w (((((((w4.setCell ⟨w5.heap.size, 0, none⟩ (.int .i64 m)).setCell ⟨w5.heap.size, 1, none⟩ (.bool false)).setCell ⟨w5.heap.size, 2, none⟩ (.int .u32 A)).setCell ⟨w5.heap.size, 3, none⟩ (.int .i64 N)).setCell ⟨w5.heap.size, 4, none⟩ (.int .i64 0)).setCell ⟨w5.heap.size, 5, none⟩ (.int .i64 0))) := set6_below (be_go h54 vb (Nat.le_refl _)) (by omega)
    have gs : w5.heap.size < (((((((w4.setCell ⟨w5.heap.size, 0, none⟩ (.int .i64 m)).setCell ⟨w5.heap.size, 1, none⟩ (.bool false)).setCell ⟨w5.heap.size, 2, none⟩ (.int .u32 A)).setCell ⟨w5.heap.size, 3, none⟩ (.int .i64 N)).setCell ⟨w5.heap.size, 4, none⟩ (.int .i64 0)).setCell ⟨w5.heap.size, 5, none⟩ (.int .i64 0))).heap.size := by have q := blk_lt hgx0; simpa [World.setCell] using q
    have gw : w.heap.size + 1 < w5.heap.size := vs1
    have bs : w.heap.size + 1 < (((((((w4.setCell ⟨w5.heap.size, 0, none⟩ (.int .i64 m)).setCell ⟨w5.heap.size, 1, none⟩ (.bool false)).setCell ⟨w5.heap.size, 2, none⟩ (.int .u32 A)).setCell ⟨w5.heap.size, 3, none⟩ (.int .i64 N)).setCell ⟨w5.heap.size, 4, none⟩ (.int .i64 0)).setCell ⟨w5.heap.size, 5, none⟩ (.int .i64 0))).heap.size := Nat.lt_trans gw gs
    clear ordB hgx0 x0 x1 x2 x3 x4 x5 fx0 fx1 fx2 fx3 fx4 fx5
    clear h54 vg vb hb4 v0 v1 v2 v3 vs1 vs2 vn1 vn2 vn3 vn4 QV j0 j1 j2 j3 js jt jz
    generalize ((((((w4.setCell ⟨w5.heap.size, 0, none⟩ (.int .i64 m)).setCell ⟨w5.heap.size, 1, none⟩ (.bool false)).setCell ⟨w5.heap.size, 2, none⟩ (.int .u32 A)).setCell ⟨w5.heap.size, 3, none⟩ (.int .i64 N)).setCell ⟨w5.heap.size, 4, none⟩ (.int .i64 0)).setCell ⟨w5.heap.size, 5, none⟩ (.int .i64 0)) = w6 at *
    generalize w5.heap.size = gx at *
    obtain ⟨r0, r1, r2, r3, r4, r5, f0, f1, f2, f3, f4, f5⟩ := rc_all HG
    go_wp2_with (go_at_call 33; refine (HL.out _ gx HX QW.out gw).mono ?_; rintro e w7 ⟨rfl, hx7, hb7⟩; have hg7 := (hb7.block w.heap.size (by omega)).trans HG; have B7 : Below w.heap.size w w7 := B6.trans (hb7.mono (by omega)); clear r0 r1 r2 r3 r4 r5 f0 f1 f2 f3 f4 f5; obtain ⟨r0, r1, r2, r3, r4, r5, f0, f1, f2, f3, f4, f5⟩ := rc_all hg7; obtain ⟨x0, x1, x2, x3, x4, x5, y0, y1, y2, y3, y4, y5⟩ := rc_all hx7)
    exact bodyPost_ret (results_ct rfl _ _ w.heap.size 26 _ (0, 0) _ rfl (set6 hg7) Tryz.underlying26 rfl rfl) rfl ⟨rfl, set6_below B7 (Nat.le_refl _)⟩
set_option maxRecDepth 20000 in
set_option maxHeartbeats 4000000 in
theorem parse_e3_true (a0 : ByteArray) (xs : List ByteArray) (w : World) (s0 s1 s2 : ByteArray) (m : Int) (hx0 : xs[0]? = some s0) (hx1 : xs[1]? = some s1) (hx2 : xs[2]? = some s2)
    (hS : ∀ W : World, Below w.heap.size w W → Calls Tryz.prog 30 #[.string a0, .string ⟨#[32]⟩] W fun e w' => e = .returned (.slice (some ⟨W.heap.size, 0, none⟩) xs.length xs.length) ∧ Words W w' xs) (hl : decide ((xs.length : Int) < 3) = false)
    (hn : plist_number.f s0 = some m) (hm : (m == 0) = false) (hs1 : (s1.toList == [112, 101, 114, 109, 105, 116]) = true)  (A N e3 : Int)
    (hA : ∀ W : World, Below w.heap.size w W → Calls Tryz.prog 32 #[.string s2] W fun e w' => e = .returned (.tuple #[.agg #[.int .u32 A, .int .i64 N], .int .i64 e3]) ∧ Below W.heap.size W w') (he : (e3 == 3) = false) (he0 : (e3 != 0) = true) (ge le : Int) (hx3 : xs.length = 3) (hL : ∀ (W : World) (gx : Nat), W.heap[gx]? = some (ruleCells m true A N 0 0) → (∀ (j : Nat) (s : ByteArray), xs[j]? = some s → W.cell? ⟨w.heap.size + 1, j, none⟩ = some (.string s)) → w.heap.size + 1 < gx →
      Calls Tryz.prog 33 #[.pointer (some ⟨gx, 0, none⟩), .slice (some ⟨w.heap.size + 1, 0, none⟩) 0 0] W fun e w' => LimPost gx m true A N ge le true W e w') :
    Calls Tryz.prog 8 #[.string a0] w fun e w' => e = .returned (.tuple #[.agg #[.int .i64 0, .bool false, .int .u32 0, .int .i64 0, .int .i64 0, .int .i64 0], .int .i64 1]) ∧ Below w.heap.size w w' := by
  have h0 : 0 < (xs.length : Int) := by simp at hl; omega
  have h1 : 1 < (xs.length : Int) := by simp at hl; omega
  have h2 : 0 < xs.length := by omega
  have h3 : 1 < xs.length := by omega
  have h4 : ¬ (xs.length : Int) < 3 := by simp at hl; omega
  have h5 : 2 < (xs.length : Int) := by simp at hl; omega
  have h6 : 2 < xs.length := by omega
  have hc := fun W => plist_number.calls s0 m W hn
  clear hn
  have h3z : (3 : Int) ≤ (xs.length : Int) := by simp at hl; omega
  have HL := Aside0.mk hL
  clear hL
  go_enter Tryz.func8, Tryz.ntmps8
  go_wp2_with (first | (go_at_call 30; refine (hS _ (be_al _ (Below.refl _ _) (Nat.le_refl _))).mono ?_; rintro e w' ⟨rfl, hb, qs, qw⟩; replace qs : w.heap.size + 1 < w'.heap.size := (by simpa using qs); have q0 : w'.cell? ⟨w.heap.size + 1, 0, none⟩ = some (.string s0) := (by simpa using qw 0 s0 hx0); have q1 : w'.cell? ⟨w.heap.size + 1, 1, none⟩ = some (.string s1) := (by simpa using qw 1 s1 hx1); have q2 : w'.cell? ⟨w.heap.size + 1, 2, none⟩ = some (.string s2) := (by simpa using qw 2 s2 hx2); have hg := be_keep hb (al_mine w 0 false 0 0 0 0); have QW := Aside0.mk (show ∀ (j : Nat) (s : ByteArray), xs[j]? = some s → w'.cell? ⟨w.heap.size + 1, j, none⟩ = some (.string s) from fun j s hj => by simpa using qw j s hj); clear qw) | (go_at_call 31; refine (hc _).mono ?_; rintro e w2 ⟨rfl, hb2⟩; have z0 := be_cell hb2 q0; have z1 := be_cell hb2 q1; have z2 := be_cell hb2 q2; have hg2 := be_keep hb2 hg; obtain ⟨r0, r1, r2, r3, r4, r5, f0, f1, f2, f3, f4, f5⟩ := rc_all hg2) | (go_at_call 32; refine (hA _ (be_go hb2 (be_go hb (be_al _ (Below.refl _ _) (Nat.le_refl _)) (Nat.le_refl _)) (Nat.le_refl _))).mono ?_; rintro e w3 ⟨rfl, hb3⟩; have hg3 := be_keep hb3 hg2))
  all_goals have v2 : (w3.alloc (.cells #[.int .u32 A, .int .i64 N] 24)).cell? ⟨w3.heap.size, 0, none⟩ = some (.int .u32 A) := (al_new rfl).trans rfl
  all_goals have v3 : (w3.alloc (.cells #[.int .u32 A, .int .i64 N] 24)).cell? ⟨w3.heap.size, 1, none⟩ = some (.int .i64 N) := (al_new rfl).trans rfl
  all_goals have y0 := be_cell hb3 z0
  all_goals have y1 := be_cell hb3 z1
  all_goals have v0 := (World.cell?_alloc_some w3 _ (.cells #[.int .u32 A, .int .i64 N] 24) (by rw [y0]; rfl)).trans y0
  all_goals have v1 := (World.cell?_alloc_some w3 _ (.cells #[.int .u32 A, .int .i64 N] 24) (by rw [y1]; rfl)).trans y1
  all_goals have vg := al_keep (.cells #[.int .u32 A, .int .i64 N] 24) hg3
  all_goals have vb : Below w.heap.size w (w3.alloc (.cells #[.int .u32 A, .int .i64 N] 24)) := by (repeat with_reducible first | exact Below.refl _ _ | apply Below.drew | refine be_al _ ?_ (Nat.le_refl _) | refine be_set _ _ ?_ (Nat.le_refl _) | refine be_go hb3 ?_ (Nat.le_refl _) | refine be_go hb2 ?_ (Nat.le_refl _) | refine be_go hb ?_ (Nat.le_refl _))
  all_goals have vq : Below w'.heap.size w' (w3.alloc (.cells #[.int .u32 A, .int .i64 N] 24)) := ((hb2.trans (hb3.mono hb2.size)).alloc (Nat.le_trans hb2.size hb3.size) _)
  all_goals have vs1 : w.heap.size + 1 < (w3.alloc (.cells #[.int .u32 A, .int .i64 N] 24)).heap.size := Nat.lt_of_lt_of_le qs vq.size
  all_goals have vs2 : w3.heap.size < (w3.alloc (.cells #[.int .u32 A, .int .i64 N] 24)).heap.size := by simp
  all_goals have QV := Aside0.mk (fun j s hj => be_cell vq (QW.out j s hj))
  all_goals clear hb hb2 hb3 z0 z1 z2 y0 y1 hg hg2 hg3 q0 q1 q2 r0 r1 r2 r3 r4 r5 f0 f1 f2 f3 f4 f5 QW vq
  all_goals generalize w3.alloc (.cells #[.int .u32 A, .int .i64 N] 24) = w5 at *
  all_goals have vn1 : w.heap.size + 1 ≠ w5.heap.size := Nat.ne_of_lt vs1
  all_goals have vn2 : w5.heap.size ≠ w.heap.size + 1 := vn1.symm
  all_goals have vn3 : w3.heap.size ≠ w5.heap.size := Nat.ne_of_lt vs2
  all_goals have vn4 : w5.heap.size ≠ w3.heap.size := vn3.symm
  all_goals go_region_held3 (fun W => W.cell? ⟨w.heap.size + 1, 0, none⟩ = some (.string s0) ∧ W.cell? ⟨w.heap.size + 1, 1, none⟩ = some (.string s1) ∧ W.cell? ⟨w3.heap.size, 0, none⟩ = some (.int .u32 A) ∧ W.cell? ⟨w3.heap.size, 1, none⟩ = some (.int .i64 N)) (go_keep) (first | (go_at_call 31; refine (hc _).mono ?_; rintro e w4 ⟨rfl, hb4⟩; (first | (have ordA : True := trivial; have h54 : Below w5.heap.size w5 w4 := ((Below.refl _ _).drew).trans hb4) | (have ordB : True := trivial; have h54 : Below w5.heap.size w5 w4 := (((Below.refl _ _).drew).alloc (Nat.le_refl _) _).trans (hb4.mono (by simp)); have hgx0 := (hb4.block w5.heap.size (by simp)).trans (al_mine w5.drew 0 false 0 0 0 0); obtain ⟨x0, x1, x2, x3, x4, x5, fx0, fx1, fx2, fx3, fx4, fx5⟩ := rc_all hgx0)); have j0 := be_cell h54 v0; have j1 := be_cell h54 v1; have j2 := be_cell h54 v2; have j3 := be_cell h54 v3; have js := Nat.lt_of_lt_of_le vs1 h54.size; have jt := Nat.lt_of_lt_of_le vs2 h54.size; have jz := h54.size))
  · have _t := ordA
    have HX : (w4.alloc (.cells #[.int .i64 m, .bool true, .int .u32 A, .int .i64 N, .int .i64 0, .int .i64 0] 26)).heap[w4.heap.size]? = some (ruleCells m true A N 0 0) := al_mine w4 m true A N 0 0
    have HG : (w4.alloc (.cells #[.int .i64 m, .bool true, .int .u32 A, .int .i64 N, .int .i64 0, .int .i64 0] 26)).heap[w.heap.size]? = some (ruleCells 0 false 0 0 0 0) := al_keep _ (be_keep h54 vg)
    have QW := Aside0.mk (fun (j : Nat) (s : ByteArray) (hj : xs[j]? = some s) => (show (w4.alloc (.cells #[.int .i64 m, .bool true, .int .u32 A, .int .i64 N, .int .i64 0, .int .i64 0] 26)).cell? ⟨w.heap.size + 1, j, none⟩ = some (.string s) from (World.cell?_alloc_lt w4 _ ⟨w.heap.size + 1, j, none⟩ js).trans (be_cell h54 (QV.out j s hj))))
    have B6 : Below w.heap.size w (w4.alloc (.cells #[.int .i64 m, .bool true, .int .u32 A, .int .i64 N, .int .i64 0, .int .i64 0] 26)) := be_al _ (be_go h54 vb (Nat.le_refl _)) (Nat.le_refl _)
    have gs : w4.heap.size < (w4.alloc (.cells #[.int .i64 m, .bool true, .int .u32 A, .int .i64 N, .int .i64 0, .int .i64 0] 26)).heap.size := by simp
    have gw : w.heap.size + 1 < w4.heap.size := js
    have bs : w.heap.size + 1 < (w4.alloc (.cells #[.int .i64 m, .bool true, .int .u32 A, .int .i64 N, .int .i64 0, .int .i64 0] 26)).heap.size := Nat.lt_trans gw gs
    clear ordA
    clear h54 vg vb hb4 v0 v1 v2 v3 vs1 vs2 vn1 vn2 vn3 vn4 QV j0 j1 j2 j3 js jt jz
    generalize w4.alloc (.cells #[.int .i64 m, .bool true, .int .u32 A, .int .i64 N, .int .i64 0, .int .i64 0] 26) = w6 at *
    generalize w4.heap.size = gx at *
    obtain ⟨r0, r1, r2, r3, r4, r5, f0, f1, f2, f3, f4, f5⟩ := rc_all HG
    go_wp2_with (go_at_call 33; refine (HL.out _ gx HX QW.out gw).mono ?_; rintro e w7 ⟨rfl, hx7, hb7⟩; have hg7 := (hb7.block w.heap.size (by omega)).trans HG; have B7 : Below w.heap.size w w7 := B6.trans (hb7.mono (by omega)); clear r0 r1 r2 r3 r4 r5 f0 f1 f2 f3 f4 f5; obtain ⟨r0, r1, r2, r3, r4, r5, f0, f1, f2, f3, f4, f5⟩ := rc_all hg7; obtain ⟨x0, x1, x2, x3, x4, x5, y0, y1, y2, y3, y4, y5⟩ := rc_all hx7)
    exact bodyPost_ret (results_ct rfl _ _ w.heap.size 26 _ (0, 0) _ rfl (set6 hg7) Tryz.underlying26 rfl rfl) rfl ⟨rfl, set6_below B7 (Nat.le_refl _)⟩
  · have _t := ordB
    have HX : (((((((w4.setCell ⟨w5.heap.size, 0, none⟩ (.int .i64 m)).setCell ⟨w5.heap.size, 1, none⟩ (.bool true)).setCell ⟨w5.heap.size, 2, none⟩ (.int .u32 A)).setCell ⟨w5.heap.size, 3, none⟩ (.int .i64 N)).setCell ⟨w5.heap.size, 4, none⟩ (.int .i64 0)).setCell ⟨w5.heap.size, 5, none⟩ (.int .i64 0))).heap[w5.heap.size]? = some (ruleCells m true A N 0 0) := set6 hgx0
    have HG : (((((((w4.setCell ⟨w5.heap.size, 0, none⟩ (.int .i64 m)).setCell ⟨w5.heap.size, 1, none⟩ (.bool true)).setCell ⟨w5.heap.size, 2, none⟩ (.int .u32 A)).setCell ⟨w5.heap.size, 3, none⟩ (.int .i64 N)).setCell ⟨w5.heap.size, 4, none⟩ (.int .i64 0)).setCell ⟨w5.heap.size, 5, none⟩ (.int .i64 0))).heap[w.heap.size]? = some (ruleCells 0 false 0 0 0 0) := (set6_far (by omega)).trans (be_keep h54 vg)
    have QW := Aside0.mk (fun (j : Nat) (s : ByteArray) (hj : xs[j]? = some s) => (show (((((((w4.setCell ⟨w5.heap.size, 0, none⟩ (.int .i64 m)).setCell ⟨w5.heap.size, 1, none⟩ (.bool true)).setCell ⟨w5.heap.size, 2, none⟩ (.int .u32 A)).setCell ⟨w5.heap.size, 3, none⟩ (.int .i64 N)).setCell ⟨w5.heap.size, 4, none⟩ (.int .i64 0)).setCell ⟨w5.heap.size, 5, none⟩ (.int .i64 0))).cell? ⟨w.heap.size + 1, j, none⟩ = some (.string s) from (World.cell?_of_block (set6_far (by omega))).trans (be_cell h54 (QV.out j s hj))))
    have B6 : Below w.heap.size w (((((((w4.setCell ⟨w5.heap.size, 0, none⟩ (.int .i64 m)).setCell ⟨w5.heap.size, 1, none⟩ (.bool true)).setCell ⟨w5.heap.size, 2, none⟩ (.int .u32 A)).setCell ⟨w5.heap.size, 3, none⟩ (.int .i64 N)).setCell ⟨w5.heap.size, 4, none⟩ (.int .i64 0)).setCell ⟨w5.heap.size, 5, none⟩ (.int .i64 0))) := set6_below (be_go h54 vb (Nat.le_refl _)) (by omega)
    have gs : w5.heap.size < (((((((w4.setCell ⟨w5.heap.size, 0, none⟩ (.int .i64 m)).setCell ⟨w5.heap.size, 1, none⟩ (.bool true)).setCell ⟨w5.heap.size, 2, none⟩ (.int .u32 A)).setCell ⟨w5.heap.size, 3, none⟩ (.int .i64 N)).setCell ⟨w5.heap.size, 4, none⟩ (.int .i64 0)).setCell ⟨w5.heap.size, 5, none⟩ (.int .i64 0))).heap.size := by have q := blk_lt hgx0; simpa [World.setCell] using q
    have gw : w.heap.size + 1 < w5.heap.size := vs1
    have bs : w.heap.size + 1 < (((((((w4.setCell ⟨w5.heap.size, 0, none⟩ (.int .i64 m)).setCell ⟨w5.heap.size, 1, none⟩ (.bool true)).setCell ⟨w5.heap.size, 2, none⟩ (.int .u32 A)).setCell ⟨w5.heap.size, 3, none⟩ (.int .i64 N)).setCell ⟨w5.heap.size, 4, none⟩ (.int .i64 0)).setCell ⟨w5.heap.size, 5, none⟩ (.int .i64 0))).heap.size := Nat.lt_trans gw gs
    clear ordB hgx0 x0 x1 x2 x3 x4 x5 fx0 fx1 fx2 fx3 fx4 fx5
    clear h54 vg vb hb4 v0 v1 v2 v3 vs1 vs2 vn1 vn2 vn3 vn4 QV j0 j1 j2 j3 js jt jz
    generalize ((((((w4.setCell ⟨w5.heap.size, 0, none⟩ (.int .i64 m)).setCell ⟨w5.heap.size, 1, none⟩ (.bool true)).setCell ⟨w5.heap.size, 2, none⟩ (.int .u32 A)).setCell ⟨w5.heap.size, 3, none⟩ (.int .i64 N)).setCell ⟨w5.heap.size, 4, none⟩ (.int .i64 0)).setCell ⟨w5.heap.size, 5, none⟩ (.int .i64 0)) = w6 at *
    generalize w5.heap.size = gx at *
    obtain ⟨r0, r1, r2, r3, r4, r5, f0, f1, f2, f3, f4, f5⟩ := rc_all HG
    go_wp2_with (go_at_call 33; refine (HL.out _ gx HX QW.out gw).mono ?_; rintro e w7 ⟨rfl, hx7, hb7⟩; have hg7 := (hb7.block w.heap.size (by omega)).trans HG; have B7 : Below w.heap.size w w7 := B6.trans (hb7.mono (by omega)); clear r0 r1 r2 r3 r4 r5 f0 f1 f2 f3 f4 f5; obtain ⟨r0, r1, r2, r3, r4, r5, f0, f1, f2, f3, f4, f5⟩ := rc_all hg7; obtain ⟨x0, x1, x2, x3, x4, x5, y0, y1, y2, y3, y4, y5⟩ := rc_all hx7)
    exact bodyPost_ret (results_ct rfl _ _ w.heap.size 26 _ (0, 0) _ rfl (set6 hg7) Tryz.underlying26 rfl rfl) rfl ⟨rfl, set6_below B7 (Nat.le_refl _)⟩
set_option maxRecDepth 20000 in
set_option maxHeartbeats 4000000 in
theorem parse_e3_false (a0 : ByteArray) (xs : List ByteArray) (w : World) (s0 s1 s2 : ByteArray) (m : Int) (hx0 : xs[0]? = some s0) (hx1 : xs[1]? = some s1) (hx2 : xs[2]? = some s2)
    (hS : ∀ W : World, Below w.heap.size w W → Calls Tryz.prog 30 #[.string a0, .string ⟨#[32]⟩] W fun e w' => e = .returned (.slice (some ⟨W.heap.size, 0, none⟩) xs.length xs.length) ∧ Words W w' xs) (hl : decide ((xs.length : Int) < 3) = false)
    (hn : plist_number.f s0 = some m) (hm : (m == 0) = false) (hs1 : (s1.toList == [112, 101, 114, 109, 105, 116]) = false) (hs3 : (s1.toList == [100, 101, 110, 121]) = true) (A N e3 : Int)
    (hA : ∀ W : World, Below w.heap.size w W → Calls Tryz.prog 32 #[.string s2] W fun e w' => e = .returned (.tuple #[.agg #[.int .u32 A, .int .i64 N], .int .i64 e3]) ∧ Below W.heap.size W w') (he : (e3 == 3) = false) (he0 : (e3 != 0) = true) (ge le : Int) (hx3 : xs.length = 3) (hL : ∀ (W : World) (gx : Nat), W.heap[gx]? = some (ruleCells m false A N 0 0) → (∀ (j : Nat) (s : ByteArray), xs[j]? = some s → W.cell? ⟨w.heap.size + 1, j, none⟩ = some (.string s)) → w.heap.size + 1 < gx →
      Calls Tryz.prog 33 #[.pointer (some ⟨gx, 0, none⟩), .slice (some ⟨w.heap.size + 1, 0, none⟩) 0 0] W fun e w' => LimPost gx m false A N ge le true W e w') :
    Calls Tryz.prog 8 #[.string a0] w fun e w' => e = .returned (.tuple #[.agg #[.int .i64 0, .bool false, .int .u32 0, .int .i64 0, .int .i64 0, .int .i64 0], .int .i64 1]) ∧ Below w.heap.size w w' := by
  have h0 : 0 < (xs.length : Int) := by simp at hl; omega
  have h1 : 1 < (xs.length : Int) := by simp at hl; omega
  have h2 : 0 < xs.length := by omega
  have h3 : 1 < xs.length := by omega
  have h4 : ¬ (xs.length : Int) < 3 := by simp at hl; omega
  have h5 : 2 < (xs.length : Int) := by simp at hl; omega
  have h6 : 2 < xs.length := by omega
  have hc := fun W => plist_number.calls s0 m W hn
  clear hn
  have h3z : (3 : Int) ≤ (xs.length : Int) := by simp at hl; omega
  have HL := Aside0.mk hL
  clear hL
  go_enter Tryz.func8, Tryz.ntmps8
  go_wp2_with (first | (go_at_call 30; refine (hS _ (be_al _ (Below.refl _ _) (Nat.le_refl _))).mono ?_; rintro e w' ⟨rfl, hb, qs, qw⟩; replace qs : w.heap.size + 1 < w'.heap.size := (by simpa using qs); have q0 : w'.cell? ⟨w.heap.size + 1, 0, none⟩ = some (.string s0) := (by simpa using qw 0 s0 hx0); have q1 : w'.cell? ⟨w.heap.size + 1, 1, none⟩ = some (.string s1) := (by simpa using qw 1 s1 hx1); have q2 : w'.cell? ⟨w.heap.size + 1, 2, none⟩ = some (.string s2) := (by simpa using qw 2 s2 hx2); have hg := be_keep hb (al_mine w 0 false 0 0 0 0); have QW := Aside0.mk (show ∀ (j : Nat) (s : ByteArray), xs[j]? = some s → w'.cell? ⟨w.heap.size + 1, j, none⟩ = some (.string s) from fun j s hj => by simpa using qw j s hj); clear qw) | (go_at_call 31; refine (hc _).mono ?_; rintro e w2 ⟨rfl, hb2⟩; have z0 := be_cell hb2 q0; have z1 := be_cell hb2 q1; have z2 := be_cell hb2 q2; have hg2 := be_keep hb2 hg; obtain ⟨r0, r1, r2, r3, r4, r5, f0, f1, f2, f3, f4, f5⟩ := rc_all hg2) | (go_at_call 32; refine (hA _ (be_go hb2 (be_go hb (be_al _ (Below.refl _ _) (Nat.le_refl _)) (Nat.le_refl _)) (Nat.le_refl _))).mono ?_; rintro e w3 ⟨rfl, hb3⟩; have hg3 := be_keep hb3 hg2))
  all_goals have v2 : (w3.alloc (.cells #[.int .u32 A, .int .i64 N] 24)).cell? ⟨w3.heap.size, 0, none⟩ = some (.int .u32 A) := (al_new rfl).trans rfl
  all_goals have v3 : (w3.alloc (.cells #[.int .u32 A, .int .i64 N] 24)).cell? ⟨w3.heap.size, 1, none⟩ = some (.int .i64 N) := (al_new rfl).trans rfl
  all_goals have y0 := be_cell hb3 z0
  all_goals have y1 := be_cell hb3 z1
  all_goals have v0 := (World.cell?_alloc_some w3 _ (.cells #[.int .u32 A, .int .i64 N] 24) (by rw [y0]; rfl)).trans y0
  all_goals have v1 := (World.cell?_alloc_some w3 _ (.cells #[.int .u32 A, .int .i64 N] 24) (by rw [y1]; rfl)).trans y1
  all_goals have vg := al_keep (.cells #[.int .u32 A, .int .i64 N] 24) hg3
  all_goals have vb : Below w.heap.size w (w3.alloc (.cells #[.int .u32 A, .int .i64 N] 24)) := by (repeat with_reducible first | exact Below.refl _ _ | apply Below.drew | refine be_al _ ?_ (Nat.le_refl _) | refine be_set _ _ ?_ (Nat.le_refl _) | refine be_go hb3 ?_ (Nat.le_refl _) | refine be_go hb2 ?_ (Nat.le_refl _) | refine be_go hb ?_ (Nat.le_refl _))
  all_goals have vq : Below w'.heap.size w' (w3.alloc (.cells #[.int .u32 A, .int .i64 N] 24)) := ((hb2.trans (hb3.mono hb2.size)).alloc (Nat.le_trans hb2.size hb3.size) _)
  all_goals have vs1 : w.heap.size + 1 < (w3.alloc (.cells #[.int .u32 A, .int .i64 N] 24)).heap.size := Nat.lt_of_lt_of_le qs vq.size
  all_goals have vs2 : w3.heap.size < (w3.alloc (.cells #[.int .u32 A, .int .i64 N] 24)).heap.size := by simp
  all_goals have QV := Aside0.mk (fun j s hj => be_cell vq (QW.out j s hj))
  all_goals clear hb hb2 hb3 z0 z1 z2 y0 y1 hg hg2 hg3 q0 q1 q2 r0 r1 r2 r3 r4 r5 f0 f1 f2 f3 f4 f5 QW vq
  all_goals generalize w3.alloc (.cells #[.int .u32 A, .int .i64 N] 24) = w5 at *
  all_goals have vn1 : w.heap.size + 1 ≠ w5.heap.size := Nat.ne_of_lt vs1
  all_goals have vn2 : w5.heap.size ≠ w.heap.size + 1 := vn1.symm
  all_goals have vn3 : w3.heap.size ≠ w5.heap.size := Nat.ne_of_lt vs2
  all_goals have vn4 : w5.heap.size ≠ w3.heap.size := vn3.symm
  all_goals go_region_held3 (fun W => W.cell? ⟨w.heap.size + 1, 0, none⟩ = some (.string s0) ∧ W.cell? ⟨w.heap.size + 1, 1, none⟩ = some (.string s1) ∧ W.cell? ⟨w3.heap.size, 0, none⟩ = some (.int .u32 A) ∧ W.cell? ⟨w3.heap.size, 1, none⟩ = some (.int .i64 N)) (go_keep) (first | (go_at_call 31; refine (hc _).mono ?_; rintro e w4 ⟨rfl, hb4⟩; (first | (have ordA : True := trivial; have h54 : Below w5.heap.size w5 w4 := ((Below.refl _ _).drew).trans hb4) | (have ordB : True := trivial; have h54 : Below w5.heap.size w5 w4 := (((Below.refl _ _).drew).alloc (Nat.le_refl _) _).trans (hb4.mono (by simp)); have hgx0 := (hb4.block w5.heap.size (by simp)).trans (al_mine w5.drew 0 false 0 0 0 0); obtain ⟨x0, x1, x2, x3, x4, x5, fx0, fx1, fx2, fx3, fx4, fx5⟩ := rc_all hgx0)); have j0 := be_cell h54 v0; have j1 := be_cell h54 v1; have j2 := be_cell h54 v2; have j3 := be_cell h54 v3; have js := Nat.lt_of_lt_of_le vs1 h54.size; have jt := Nat.lt_of_lt_of_le vs2 h54.size; have jz := h54.size))
  · have _t := ordA
    have HX : (w4.alloc (.cells #[.int .i64 m, .bool false, .int .u32 A, .int .i64 N, .int .i64 0, .int .i64 0] 26)).heap[w4.heap.size]? = some (ruleCells m false A N 0 0) := al_mine w4 m false A N 0 0
    have HG : (w4.alloc (.cells #[.int .i64 m, .bool false, .int .u32 A, .int .i64 N, .int .i64 0, .int .i64 0] 26)).heap[w.heap.size]? = some (ruleCells 0 false 0 0 0 0) := al_keep _ (be_keep h54 vg)
    have QW := Aside0.mk (fun (j : Nat) (s : ByteArray) (hj : xs[j]? = some s) => (show (w4.alloc (.cells #[.int .i64 m, .bool false, .int .u32 A, .int .i64 N, .int .i64 0, .int .i64 0] 26)).cell? ⟨w.heap.size + 1, j, none⟩ = some (.string s) from (World.cell?_alloc_lt w4 _ ⟨w.heap.size + 1, j, none⟩ js).trans (be_cell h54 (QV.out j s hj))))
    have B6 : Below w.heap.size w (w4.alloc (.cells #[.int .i64 m, .bool false, .int .u32 A, .int .i64 N, .int .i64 0, .int .i64 0] 26)) := be_al _ (be_go h54 vb (Nat.le_refl _)) (Nat.le_refl _)
    have gs : w4.heap.size < (w4.alloc (.cells #[.int .i64 m, .bool false, .int .u32 A, .int .i64 N, .int .i64 0, .int .i64 0] 26)).heap.size := by simp
    have gw : w.heap.size + 1 < w4.heap.size := js
    have bs : w.heap.size + 1 < (w4.alloc (.cells #[.int .i64 m, .bool false, .int .u32 A, .int .i64 N, .int .i64 0, .int .i64 0] 26)).heap.size := Nat.lt_trans gw gs
    clear ordA
    clear h54 vg vb hb4 v0 v1 v2 v3 vs1 vs2 vn1 vn2 vn3 vn4 QV j0 j1 j2 j3 js jt jz
    generalize w4.alloc (.cells #[.int .i64 m, .bool false, .int .u32 A, .int .i64 N, .int .i64 0, .int .i64 0] 26) = w6 at *
    generalize w4.heap.size = gx at *
    obtain ⟨r0, r1, r2, r3, r4, r5, f0, f1, f2, f3, f4, f5⟩ := rc_all HG
    go_wp2_with (go_at_call 33; refine (HL.out _ gx HX QW.out gw).mono ?_; rintro e w7 ⟨rfl, hx7, hb7⟩; have hg7 := (hb7.block w.heap.size (by omega)).trans HG; have B7 : Below w.heap.size w w7 := B6.trans (hb7.mono (by omega)); clear r0 r1 r2 r3 r4 r5 f0 f1 f2 f3 f4 f5; obtain ⟨r0, r1, r2, r3, r4, r5, f0, f1, f2, f3, f4, f5⟩ := rc_all hg7; obtain ⟨x0, x1, x2, x3, x4, x5, y0, y1, y2, y3, y4, y5⟩ := rc_all hx7)
    exact bodyPost_ret (results_ct rfl _ _ w.heap.size 26 _ (0, 0) _ rfl (set6 hg7) Tryz.underlying26 rfl rfl) rfl ⟨rfl, set6_below B7 (Nat.le_refl _)⟩
  · have _t := ordB
    have HX : (((((((w4.setCell ⟨w5.heap.size, 0, none⟩ (.int .i64 m)).setCell ⟨w5.heap.size, 1, none⟩ (.bool false)).setCell ⟨w5.heap.size, 2, none⟩ (.int .u32 A)).setCell ⟨w5.heap.size, 3, none⟩ (.int .i64 N)).setCell ⟨w5.heap.size, 4, none⟩ (.int .i64 0)).setCell ⟨w5.heap.size, 5, none⟩ (.int .i64 0))).heap[w5.heap.size]? = some (ruleCells m false A N 0 0) := set6 hgx0
    have HG : (((((((w4.setCell ⟨w5.heap.size, 0, none⟩ (.int .i64 m)).setCell ⟨w5.heap.size, 1, none⟩ (.bool false)).setCell ⟨w5.heap.size, 2, none⟩ (.int .u32 A)).setCell ⟨w5.heap.size, 3, none⟩ (.int .i64 N)).setCell ⟨w5.heap.size, 4, none⟩ (.int .i64 0)).setCell ⟨w5.heap.size, 5, none⟩ (.int .i64 0))).heap[w.heap.size]? = some (ruleCells 0 false 0 0 0 0) := (set6_far (by omega)).trans (be_keep h54 vg)
    have QW := Aside0.mk (fun (j : Nat) (s : ByteArray) (hj : xs[j]? = some s) => (show (((((((w4.setCell ⟨w5.heap.size, 0, none⟩ (.int .i64 m)).setCell ⟨w5.heap.size, 1, none⟩ (.bool false)).setCell ⟨w5.heap.size, 2, none⟩ (.int .u32 A)).setCell ⟨w5.heap.size, 3, none⟩ (.int .i64 N)).setCell ⟨w5.heap.size, 4, none⟩ (.int .i64 0)).setCell ⟨w5.heap.size, 5, none⟩ (.int .i64 0))).cell? ⟨w.heap.size + 1, j, none⟩ = some (.string s) from (World.cell?_of_block (set6_far (by omega))).trans (be_cell h54 (QV.out j s hj))))
    have B6 : Below w.heap.size w (((((((w4.setCell ⟨w5.heap.size, 0, none⟩ (.int .i64 m)).setCell ⟨w5.heap.size, 1, none⟩ (.bool false)).setCell ⟨w5.heap.size, 2, none⟩ (.int .u32 A)).setCell ⟨w5.heap.size, 3, none⟩ (.int .i64 N)).setCell ⟨w5.heap.size, 4, none⟩ (.int .i64 0)).setCell ⟨w5.heap.size, 5, none⟩ (.int .i64 0))) := set6_below (be_go h54 vb (Nat.le_refl _)) (by omega)
    have gs : w5.heap.size < (((((((w4.setCell ⟨w5.heap.size, 0, none⟩ (.int .i64 m)).setCell ⟨w5.heap.size, 1, none⟩ (.bool false)).setCell ⟨w5.heap.size, 2, none⟩ (.int .u32 A)).setCell ⟨w5.heap.size, 3, none⟩ (.int .i64 N)).setCell ⟨w5.heap.size, 4, none⟩ (.int .i64 0)).setCell ⟨w5.heap.size, 5, none⟩ (.int .i64 0))).heap.size := by have q := blk_lt hgx0; simpa [World.setCell] using q
    have gw : w.heap.size + 1 < w5.heap.size := vs1
    have bs : w.heap.size + 1 < (((((((w4.setCell ⟨w5.heap.size, 0, none⟩ (.int .i64 m)).setCell ⟨w5.heap.size, 1, none⟩ (.bool false)).setCell ⟨w5.heap.size, 2, none⟩ (.int .u32 A)).setCell ⟨w5.heap.size, 3, none⟩ (.int .i64 N)).setCell ⟨w5.heap.size, 4, none⟩ (.int .i64 0)).setCell ⟨w5.heap.size, 5, none⟩ (.int .i64 0))).heap.size := Nat.lt_trans gw gs
    clear ordB hgx0 x0 x1 x2 x3 x4 x5 fx0 fx1 fx2 fx3 fx4 fx5
    clear h54 vg vb hb4 v0 v1 v2 v3 vs1 vs2 vn1 vn2 vn3 vn4 QV j0 j1 j2 j3 js jt jz
    generalize ((((((w4.setCell ⟨w5.heap.size, 0, none⟩ (.int .i64 m)).setCell ⟨w5.heap.size, 1, none⟩ (.bool false)).setCell ⟨w5.heap.size, 2, none⟩ (.int .u32 A)).setCell ⟨w5.heap.size, 3, none⟩ (.int .i64 N)).setCell ⟨w5.heap.size, 4, none⟩ (.int .i64 0)).setCell ⟨w5.heap.size, 5, none⟩ (.int .i64 0)) = w6 at *
    generalize w5.heap.size = gx at *
    obtain ⟨r0, r1, r2, r3, r4, r5, f0, f1, f2, f3, f4, f5⟩ := rc_all HG
    go_wp2_with (go_at_call 33; refine (HL.out _ gx HX QW.out gw).mono ?_; rintro e w7 ⟨rfl, hx7, hb7⟩; have hg7 := (hb7.block w.heap.size (by omega)).trans HG; have B7 : Below w.heap.size w w7 := B6.trans (hb7.mono (by omega)); clear r0 r1 r2 r3 r4 r5 f0 f1 f2 f3 f4 f5; obtain ⟨r0, r1, r2, r3, r4, r5, f0, f1, f2, f3, f4, f5⟩ := rc_all hg7; obtain ⟨x0, x1, x2, x3, x4, x5, y0, y1, y2, y3, y4, y5⟩ := rc_all hx7)
    exact bodyPost_ret (results_ct rfl _ _ w.heap.size 26 _ (0, 0) _ rfl (set6 hg7) Tryz.underlying26 rfl rfl) rfl ⟨rfl, set6_below B7 (Nat.le_refl _)⟩
set_option maxRecDepth 20000 in
set_option maxHeartbeats 4000000 in
theorem parse_m3_true (a0 : ByteArray) (xs : List ByteArray) (w : World) (s0 s1 s2 : ByteArray) (m : Int) (hx0 : xs[0]? = some s0) (hx1 : xs[1]? = some s1) (hx2 : xs[2]? = some s2)
    (hS : ∀ W : World, Below w.heap.size w W → Calls Tryz.prog 30 #[.string a0, .string ⟨#[32]⟩] W fun e w' => e = .returned (.slice (some ⟨W.heap.size, 0, none⟩) xs.length xs.length) ∧ Words W w' xs) (hl : decide ((xs.length : Int) < 3) = false)
    (hn : plist_number.f s0 = some m) (hm : (m == 0) = false) (hs1 : (s1.toList == [112, 101, 114, 109, 105, 116]) = true)  (A N : Int)
    (hA : ∀ W : World, Below w.heap.size w W → Calls Tryz.prog 32 #[.string s2] W fun e w' => e = .returned (.tuple #[.agg #[.int .u32 A, .int .i64 N], .int .i64 0]) ∧ Below W.heap.size W w') (ge le : Int) (hx3 : xs.length = 3) (hL : ∀ (W : World) (gx : Nat), W.heap[gx]? = some (ruleCells m true A N 0 0) → (∀ (j : Nat) (s : ByteArray), xs[j]? = some s → W.cell? ⟨w.heap.size + 1, j, none⟩ = some (.string s)) → w.heap.size + 1 < gx →
      Calls Tryz.prog 33 #[.pointer (some ⟨gx, 0, none⟩), .slice (some ⟨w.heap.size + 1, 0, none⟩) 0 0] W fun e w' => LimPost gx m true A N ge le true W e w') (hM : ∀ W : World, Calls Tryz.prog 10 #[.agg #[.int .i64 m, .bool true, .int .u32 A, .int .i64 N, .int .i64 ge, .int .i64 le]] W fun e w' => e = .returned (.bool false) ∧ Below W.heap.size W w') :
    Calls Tryz.prog 8 #[.string a0] w fun e w' => e = .returned (.tuple #[.agg #[.int .i64 0, .bool false, .int .u32 0, .int .i64 0, .int .i64 0, .int .i64 0], .int .i64 1]) ∧ Below w.heap.size w w' := by
  have h0 : 0 < (xs.length : Int) := by simp at hl; omega
  have h1 : 1 < (xs.length : Int) := by simp at hl; omega
  have h2 : 0 < xs.length := by omega
  have h3 : 1 < xs.length := by omega
  have h4 : ¬ (xs.length : Int) < 3 := by simp at hl; omega
  have h5 : 2 < (xs.length : Int) := by simp at hl; omega
  have h6 : 2 < xs.length := by omega
  have hc := fun W => plist_number.calls s0 m W hn
  clear hn
  have h3z : (3 : Int) ≤ (xs.length : Int) := by simp at hl; omega
  have HL := Aside0.mk hL
  clear hL
  go_enter Tryz.func8, Tryz.ntmps8
  go_wp2_with (first | (go_at_call 30; refine (hS _ (be_al _ (Below.refl _ _) (Nat.le_refl _))).mono ?_; rintro e w' ⟨rfl, hb, qs, qw⟩; replace qs : w.heap.size + 1 < w'.heap.size := (by simpa using qs); have q0 : w'.cell? ⟨w.heap.size + 1, 0, none⟩ = some (.string s0) := (by simpa using qw 0 s0 hx0); have q1 : w'.cell? ⟨w.heap.size + 1, 1, none⟩ = some (.string s1) := (by simpa using qw 1 s1 hx1); have q2 : w'.cell? ⟨w.heap.size + 1, 2, none⟩ = some (.string s2) := (by simpa using qw 2 s2 hx2); have hg := be_keep hb (al_mine w 0 false 0 0 0 0); have QW := Aside0.mk (show ∀ (j : Nat) (s : ByteArray), xs[j]? = some s → w'.cell? ⟨w.heap.size + 1, j, none⟩ = some (.string s) from fun j s hj => by simpa using qw j s hj); clear qw) | (go_at_call 31; refine (hc _).mono ?_; rintro e w2 ⟨rfl, hb2⟩; have z0 := be_cell hb2 q0; have z1 := be_cell hb2 q1; have z2 := be_cell hb2 q2; have hg2 := be_keep hb2 hg; obtain ⟨r0, r1, r2, r3, r4, r5, f0, f1, f2, f3, f4, f5⟩ := rc_all hg2) | (go_at_call 32; refine (hA _ (be_go hb2 (be_go hb (be_al _ (Below.refl _ _) (Nat.le_refl _)) (Nat.le_refl _)) (Nat.le_refl _))).mono ?_; rintro e w3 ⟨rfl, hb3⟩; have hg3 := be_keep hb3 hg2))
  all_goals have v2 : (w3.alloc (.cells #[.int .u32 A, .int .i64 N] 24)).cell? ⟨w3.heap.size, 0, none⟩ = some (.int .u32 A) := (al_new rfl).trans rfl
  all_goals have v3 : (w3.alloc (.cells #[.int .u32 A, .int .i64 N] 24)).cell? ⟨w3.heap.size, 1, none⟩ = some (.int .i64 N) := (al_new rfl).trans rfl
  all_goals have y0 := be_cell hb3 z0
  all_goals have y1 := be_cell hb3 z1
  all_goals have v0 := (World.cell?_alloc_some w3 _ (.cells #[.int .u32 A, .int .i64 N] 24) (by rw [y0]; rfl)).trans y0
  all_goals have v1 := (World.cell?_alloc_some w3 _ (.cells #[.int .u32 A, .int .i64 N] 24) (by rw [y1]; rfl)).trans y1
  all_goals have vg := al_keep (.cells #[.int .u32 A, .int .i64 N] 24) hg3
  all_goals have vb : Below w.heap.size w (w3.alloc (.cells #[.int .u32 A, .int .i64 N] 24)) := by (repeat with_reducible first | exact Below.refl _ _ | apply Below.drew | refine be_al _ ?_ (Nat.le_refl _) | refine be_set _ _ ?_ (Nat.le_refl _) | refine be_go hb3 ?_ (Nat.le_refl _) | refine be_go hb2 ?_ (Nat.le_refl _) | refine be_go hb ?_ (Nat.le_refl _))
  all_goals have vq : Below w'.heap.size w' (w3.alloc (.cells #[.int .u32 A, .int .i64 N] 24)) := ((hb2.trans (hb3.mono hb2.size)).alloc (Nat.le_trans hb2.size hb3.size) _)
  all_goals have vs1 : w.heap.size + 1 < (w3.alloc (.cells #[.int .u32 A, .int .i64 N] 24)).heap.size := Nat.lt_of_lt_of_le qs vq.size
  all_goals have vs2 : w3.heap.size < (w3.alloc (.cells #[.int .u32 A, .int .i64 N] 24)).heap.size := by simp
  all_goals have QV := Aside0.mk (fun j s hj => be_cell vq (QW.out j s hj))
  all_goals clear hb hb2 hb3 z0 z1 z2 y0 y1 hg hg2 hg3 q0 q1 q2 r0 r1 r2 r3 r4 r5 f0 f1 f2 f3 f4 f5 QW vq
  all_goals generalize w3.alloc (.cells #[.int .u32 A, .int .i64 N] 24) = w5 at *
  all_goals have vn1 : w.heap.size + 1 ≠ w5.heap.size := Nat.ne_of_lt vs1
  all_goals have vn2 : w5.heap.size ≠ w.heap.size + 1 := vn1.symm
  all_goals have vn3 : w3.heap.size ≠ w5.heap.size := Nat.ne_of_lt vs2
  all_goals have vn4 : w5.heap.size ≠ w3.heap.size := vn3.symm
  all_goals go_region_held3 (fun W => W.cell? ⟨w.heap.size + 1, 0, none⟩ = some (.string s0) ∧ W.cell? ⟨w.heap.size + 1, 1, none⟩ = some (.string s1) ∧ W.cell? ⟨w3.heap.size, 0, none⟩ = some (.int .u32 A) ∧ W.cell? ⟨w3.heap.size, 1, none⟩ = some (.int .i64 N)) (go_keep) (first | (go_at_call 31; refine (hc _).mono ?_; rintro e w4 ⟨rfl, hb4⟩; (first | (have ordA : True := trivial; have h54 : Below w5.heap.size w5 w4 := ((Below.refl _ _).drew).trans hb4) | (have ordB : True := trivial; have h54 : Below w5.heap.size w5 w4 := (((Below.refl _ _).drew).alloc (Nat.le_refl _) _).trans (hb4.mono (by simp)); have hgx0 := (hb4.block w5.heap.size (by simp)).trans (al_mine w5.drew 0 false 0 0 0 0); obtain ⟨x0, x1, x2, x3, x4, x5, fx0, fx1, fx2, fx3, fx4, fx5⟩ := rc_all hgx0)); have j0 := be_cell h54 v0; have j1 := be_cell h54 v1; have j2 := be_cell h54 v2; have j3 := be_cell h54 v3; have js := Nat.lt_of_lt_of_le vs1 h54.size; have jt := Nat.lt_of_lt_of_le vs2 h54.size; have jz := h54.size))
  · have _t := ordA
    have HX : (w4.alloc (.cells #[.int .i64 m, .bool true, .int .u32 A, .int .i64 N, .int .i64 0, .int .i64 0] 26)).heap[w4.heap.size]? = some (ruleCells m true A N 0 0) := al_mine w4 m true A N 0 0
    have HG : (w4.alloc (.cells #[.int .i64 m, .bool true, .int .u32 A, .int .i64 N, .int .i64 0, .int .i64 0] 26)).heap[w.heap.size]? = some (ruleCells 0 false 0 0 0 0) := al_keep _ (be_keep h54 vg)
    have QW := Aside0.mk (fun (j : Nat) (s : ByteArray) (hj : xs[j]? = some s) => (show (w4.alloc (.cells #[.int .i64 m, .bool true, .int .u32 A, .int .i64 N, .int .i64 0, .int .i64 0] 26)).cell? ⟨w.heap.size + 1, j, none⟩ = some (.string s) from (World.cell?_alloc_lt w4 _ ⟨w.heap.size + 1, j, none⟩ js).trans (be_cell h54 (QV.out j s hj))))
    have B6 : Below w.heap.size w (w4.alloc (.cells #[.int .i64 m, .bool true, .int .u32 A, .int .i64 N, .int .i64 0, .int .i64 0] 26)) := be_al _ (be_go h54 vb (Nat.le_refl _)) (Nat.le_refl _)
    have gs : w4.heap.size < (w4.alloc (.cells #[.int .i64 m, .bool true, .int .u32 A, .int .i64 N, .int .i64 0, .int .i64 0] 26)).heap.size := by simp
    have gw : w.heap.size + 1 < w4.heap.size := js
    have bs : w.heap.size + 1 < (w4.alloc (.cells #[.int .i64 m, .bool true, .int .u32 A, .int .i64 N, .int .i64 0, .int .i64 0] 26)).heap.size := Nat.lt_trans gw gs
    clear ordA
    clear h54 vg vb hb4 v0 v1 v2 v3 vs1 vs2 vn1 vn2 vn3 vn4 QV j0 j1 j2 j3 js jt jz
    generalize w4.alloc (.cells #[.int .i64 m, .bool true, .int .u32 A, .int .i64 N, .int .i64 0, .int .i64 0] 26) = w6 at *
    generalize w4.heap.size = gx at *
    obtain ⟨r0, r1, r2, r3, r4, r5, f0, f1, f2, f3, f4, f5⟩ := rc_all HG
    go_wp2_with (first | (go_at_call 33; refine (HL.out _ gx HX QW.out gw).mono ?_; rintro e w7 ⟨rfl, hx7, hb7⟩; have hg7 := (hb7.block w.heap.size (by omega)).trans HG; have B7 : Below w.heap.size w w7 := B6.trans (hb7.mono (by omega)); clear r0 r1 r2 r3 r4 r5 f0 f1 f2 f3 f4 f5; obtain ⟨r0, r1, r2, r3, r4, r5, f0, f1, f2, f3, f4, f5⟩ := rc_all hg7; obtain ⟨x0, x1, x2, x3, x4, x5, y0, y1, y2, y3, y4, y5⟩ := rc_all hx7) | (go_at_call 10; refine (hM _).mono ?_; rintro e w8 ⟨rfl, hb8⟩; have hg8 := be_keep hb8 hg7; have hx8 := be_keep hb8 hx7; have B8 : Below w.heap.size w w8 := be_go hb8 B7 (Nat.le_refl _); clear r0 r1 r2 r3 r4 r5 f0 f1 f2 f3 f4 f5 x0 x1 x2 x3 x4 x5 y0 y1 y2 y3 y4 y5; obtain ⟨r0, r1, r2, r3, r4, r5, f0, f1, f2, f3, f4, f5⟩ := rc_all hg8; obtain ⟨x0, x1, x2, x3, x4, x5, y0, y1, y2, y3, y4, y5⟩ := rc_all hx8))
    exact bodyPost_ret (results_ct rfl _ _ w.heap.size 26 _ (0, 0) _ rfl (set6 hg8) Tryz.underlying26 rfl rfl) rfl ⟨rfl, set6_below B8 (Nat.le_refl _)⟩
  · have _t := ordB
    have HX : (((((((w4.setCell ⟨w5.heap.size, 0, none⟩ (.int .i64 m)).setCell ⟨w5.heap.size, 1, none⟩ (.bool true)).setCell ⟨w5.heap.size, 2, none⟩ (.int .u32 A)).setCell ⟨w5.heap.size, 3, none⟩ (.int .i64 N)).setCell ⟨w5.heap.size, 4, none⟩ (.int .i64 0)).setCell ⟨w5.heap.size, 5, none⟩ (.int .i64 0))).heap[w5.heap.size]? = some (ruleCells m true A N 0 0) := set6 hgx0
    have HG : (((((((w4.setCell ⟨w5.heap.size, 0, none⟩ (.int .i64 m)).setCell ⟨w5.heap.size, 1, none⟩ (.bool true)).setCell ⟨w5.heap.size, 2, none⟩ (.int .u32 A)).setCell ⟨w5.heap.size, 3, none⟩ (.int .i64 N)).setCell ⟨w5.heap.size, 4, none⟩ (.int .i64 0)).setCell ⟨w5.heap.size, 5, none⟩ (.int .i64 0))).heap[w.heap.size]? = some (ruleCells 0 false 0 0 0 0) := (set6_far (by omega)).trans (be_keep h54 vg)
    have QW := Aside0.mk (fun (j : Nat) (s : ByteArray) (hj : xs[j]? = some s) => (show (((((((w4.setCell ⟨w5.heap.size, 0, none⟩ (.int .i64 m)).setCell ⟨w5.heap.size, 1, none⟩ (.bool true)).setCell ⟨w5.heap.size, 2, none⟩ (.int .u32 A)).setCell ⟨w5.heap.size, 3, none⟩ (.int .i64 N)).setCell ⟨w5.heap.size, 4, none⟩ (.int .i64 0)).setCell ⟨w5.heap.size, 5, none⟩ (.int .i64 0))).cell? ⟨w.heap.size + 1, j, none⟩ = some (.string s) from (World.cell?_of_block (set6_far (by omega))).trans (be_cell h54 (QV.out j s hj))))
    have B6 : Below w.heap.size w (((((((w4.setCell ⟨w5.heap.size, 0, none⟩ (.int .i64 m)).setCell ⟨w5.heap.size, 1, none⟩ (.bool true)).setCell ⟨w5.heap.size, 2, none⟩ (.int .u32 A)).setCell ⟨w5.heap.size, 3, none⟩ (.int .i64 N)).setCell ⟨w5.heap.size, 4, none⟩ (.int .i64 0)).setCell ⟨w5.heap.size, 5, none⟩ (.int .i64 0))) := set6_below (be_go h54 vb (Nat.le_refl _)) (by omega)
    have gs : w5.heap.size < (((((((w4.setCell ⟨w5.heap.size, 0, none⟩ (.int .i64 m)).setCell ⟨w5.heap.size, 1, none⟩ (.bool true)).setCell ⟨w5.heap.size, 2, none⟩ (.int .u32 A)).setCell ⟨w5.heap.size, 3, none⟩ (.int .i64 N)).setCell ⟨w5.heap.size, 4, none⟩ (.int .i64 0)).setCell ⟨w5.heap.size, 5, none⟩ (.int .i64 0))).heap.size := by have q := blk_lt hgx0; simpa [World.setCell] using q
    have gw : w.heap.size + 1 < w5.heap.size := vs1
    have bs : w.heap.size + 1 < (((((((w4.setCell ⟨w5.heap.size, 0, none⟩ (.int .i64 m)).setCell ⟨w5.heap.size, 1, none⟩ (.bool true)).setCell ⟨w5.heap.size, 2, none⟩ (.int .u32 A)).setCell ⟨w5.heap.size, 3, none⟩ (.int .i64 N)).setCell ⟨w5.heap.size, 4, none⟩ (.int .i64 0)).setCell ⟨w5.heap.size, 5, none⟩ (.int .i64 0))).heap.size := Nat.lt_trans gw gs
    clear ordB hgx0 x0 x1 x2 x3 x4 x5 fx0 fx1 fx2 fx3 fx4 fx5
    clear h54 vg vb hb4 v0 v1 v2 v3 vs1 vs2 vn1 vn2 vn3 vn4 QV j0 j1 j2 j3 js jt jz
    generalize ((((((w4.setCell ⟨w5.heap.size, 0, none⟩ (.int .i64 m)).setCell ⟨w5.heap.size, 1, none⟩ (.bool true)).setCell ⟨w5.heap.size, 2, none⟩ (.int .u32 A)).setCell ⟨w5.heap.size, 3, none⟩ (.int .i64 N)).setCell ⟨w5.heap.size, 4, none⟩ (.int .i64 0)).setCell ⟨w5.heap.size, 5, none⟩ (.int .i64 0)) = w6 at *
    generalize w5.heap.size = gx at *
    obtain ⟨r0, r1, r2, r3, r4, r5, f0, f1, f2, f3, f4, f5⟩ := rc_all HG
    go_wp2_with (first | (go_at_call 33; refine (HL.out _ gx HX QW.out gw).mono ?_; rintro e w7 ⟨rfl, hx7, hb7⟩; have hg7 := (hb7.block w.heap.size (by omega)).trans HG; have B7 : Below w.heap.size w w7 := B6.trans (hb7.mono (by omega)); clear r0 r1 r2 r3 r4 r5 f0 f1 f2 f3 f4 f5; obtain ⟨r0, r1, r2, r3, r4, r5, f0, f1, f2, f3, f4, f5⟩ := rc_all hg7; obtain ⟨x0, x1, x2, x3, x4, x5, y0, y1, y2, y3, y4, y5⟩ := rc_all hx7) | (go_at_call 10; refine (hM _).mono ?_; rintro e w8 ⟨rfl, hb8⟩; have hg8 := be_keep hb8 hg7; have hx8 := be_keep hb8 hx7; have B8 : Below w.heap.size w w8 := be_go hb8 B7 (Nat.le_refl _); clear r0 r1 r2 r3 r4 r5 f0 f1 f2 f3 f4 f5 x0 x1 x2 x3 x4 x5 y0 y1 y2 y3 y4 y5; obtain ⟨r0, r1, r2, r3, r4, r5, f0, f1, f2, f3, f4, f5⟩ := rc_all hg8; obtain ⟨x0, x1, x2, x3, x4, x5, y0, y1, y2, y3, y4, y5⟩ := rc_all hx8))
    exact bodyPost_ret (results_ct rfl _ _ w.heap.size 26 _ (0, 0) _ rfl (set6 hg8) Tryz.underlying26 rfl rfl) rfl ⟨rfl, set6_below B8 (Nat.le_refl _)⟩
set_option maxRecDepth 20000 in
set_option maxHeartbeats 4000000 in
theorem parse_m3_false (a0 : ByteArray) (xs : List ByteArray) (w : World) (s0 s1 s2 : ByteArray) (m : Int) (hx0 : xs[0]? = some s0) (hx1 : xs[1]? = some s1) (hx2 : xs[2]? = some s2)
    (hS : ∀ W : World, Below w.heap.size w W → Calls Tryz.prog 30 #[.string a0, .string ⟨#[32]⟩] W fun e w' => e = .returned (.slice (some ⟨W.heap.size, 0, none⟩) xs.length xs.length) ∧ Words W w' xs) (hl : decide ((xs.length : Int) < 3) = false)
    (hn : plist_number.f s0 = some m) (hm : (m == 0) = false) (hs1 : (s1.toList == [112, 101, 114, 109, 105, 116]) = false) (hs3 : (s1.toList == [100, 101, 110, 121]) = true) (A N : Int)
    (hA : ∀ W : World, Below w.heap.size w W → Calls Tryz.prog 32 #[.string s2] W fun e w' => e = .returned (.tuple #[.agg #[.int .u32 A, .int .i64 N], .int .i64 0]) ∧ Below W.heap.size W w') (ge le : Int) (hx3 : xs.length = 3) (hL : ∀ (W : World) (gx : Nat), W.heap[gx]? = some (ruleCells m false A N 0 0) → (∀ (j : Nat) (s : ByteArray), xs[j]? = some s → W.cell? ⟨w.heap.size + 1, j, none⟩ = some (.string s)) → w.heap.size + 1 < gx →
      Calls Tryz.prog 33 #[.pointer (some ⟨gx, 0, none⟩), .slice (some ⟨w.heap.size + 1, 0, none⟩) 0 0] W fun e w' => LimPost gx m false A N ge le true W e w') (hM : ∀ W : World, Calls Tryz.prog 10 #[.agg #[.int .i64 m, .bool false, .int .u32 A, .int .i64 N, .int .i64 ge, .int .i64 le]] W fun e w' => e = .returned (.bool false) ∧ Below W.heap.size W w') :
    Calls Tryz.prog 8 #[.string a0] w fun e w' => e = .returned (.tuple #[.agg #[.int .i64 0, .bool false, .int .u32 0, .int .i64 0, .int .i64 0, .int .i64 0], .int .i64 1]) ∧ Below w.heap.size w w' := by
  have h0 : 0 < (xs.length : Int) := by simp at hl; omega
  have h1 : 1 < (xs.length : Int) := by simp at hl; omega
  have h2 : 0 < xs.length := by omega
  have h3 : 1 < xs.length := by omega
  have h4 : ¬ (xs.length : Int) < 3 := by simp at hl; omega
  have h5 : 2 < (xs.length : Int) := by simp at hl; omega
  have h6 : 2 < xs.length := by omega
  have hc := fun W => plist_number.calls s0 m W hn
  clear hn
  have h3z : (3 : Int) ≤ (xs.length : Int) := by simp at hl; omega
  have HL := Aside0.mk hL
  clear hL
  go_enter Tryz.func8, Tryz.ntmps8
  go_wp2_with (first | (go_at_call 30; refine (hS _ (be_al _ (Below.refl _ _) (Nat.le_refl _))).mono ?_; rintro e w' ⟨rfl, hb, qs, qw⟩; replace qs : w.heap.size + 1 < w'.heap.size := (by simpa using qs); have q0 : w'.cell? ⟨w.heap.size + 1, 0, none⟩ = some (.string s0) := (by simpa using qw 0 s0 hx0); have q1 : w'.cell? ⟨w.heap.size + 1, 1, none⟩ = some (.string s1) := (by simpa using qw 1 s1 hx1); have q2 : w'.cell? ⟨w.heap.size + 1, 2, none⟩ = some (.string s2) := (by simpa using qw 2 s2 hx2); have hg := be_keep hb (al_mine w 0 false 0 0 0 0); have QW := Aside0.mk (show ∀ (j : Nat) (s : ByteArray), xs[j]? = some s → w'.cell? ⟨w.heap.size + 1, j, none⟩ = some (.string s) from fun j s hj => by simpa using qw j s hj); clear qw) | (go_at_call 31; refine (hc _).mono ?_; rintro e w2 ⟨rfl, hb2⟩; have z0 := be_cell hb2 q0; have z1 := be_cell hb2 q1; have z2 := be_cell hb2 q2; have hg2 := be_keep hb2 hg; obtain ⟨r0, r1, r2, r3, r4, r5, f0, f1, f2, f3, f4, f5⟩ := rc_all hg2) | (go_at_call 32; refine (hA _ (be_go hb2 (be_go hb (be_al _ (Below.refl _ _) (Nat.le_refl _)) (Nat.le_refl _)) (Nat.le_refl _))).mono ?_; rintro e w3 ⟨rfl, hb3⟩; have hg3 := be_keep hb3 hg2))
  all_goals have v2 : (w3.alloc (.cells #[.int .u32 A, .int .i64 N] 24)).cell? ⟨w3.heap.size, 0, none⟩ = some (.int .u32 A) := (al_new rfl).trans rfl
  all_goals have v3 : (w3.alloc (.cells #[.int .u32 A, .int .i64 N] 24)).cell? ⟨w3.heap.size, 1, none⟩ = some (.int .i64 N) := (al_new rfl).trans rfl
  all_goals have y0 := be_cell hb3 z0
  all_goals have y1 := be_cell hb3 z1
  all_goals have v0 := (World.cell?_alloc_some w3 _ (.cells #[.int .u32 A, .int .i64 N] 24) (by rw [y0]; rfl)).trans y0
  all_goals have v1 := (World.cell?_alloc_some w3 _ (.cells #[.int .u32 A, .int .i64 N] 24) (by rw [y1]; rfl)).trans y1
  all_goals have vg := al_keep (.cells #[.int .u32 A, .int .i64 N] 24) hg3
  all_goals have vb : Below w.heap.size w (w3.alloc (.cells #[.int .u32 A, .int .i64 N] 24)) := by (repeat with_reducible first | exact Below.refl _ _ | apply Below.drew | refine be_al _ ?_ (Nat.le_refl _) | refine be_set _ _ ?_ (Nat.le_refl _) | refine be_go hb3 ?_ (Nat.le_refl _) | refine be_go hb2 ?_ (Nat.le_refl _) | refine be_go hb ?_ (Nat.le_refl _))
  all_goals have vq : Below w'.heap.size w' (w3.alloc (.cells #[.int .u32 A, .int .i64 N] 24)) := ((hb2.trans (hb3.mono hb2.size)).alloc (Nat.le_trans hb2.size hb3.size) _)
  all_goals have vs1 : w.heap.size + 1 < (w3.alloc (.cells #[.int .u32 A, .int .i64 N] 24)).heap.size := Nat.lt_of_lt_of_le qs vq.size
  all_goals have vs2 : w3.heap.size < (w3.alloc (.cells #[.int .u32 A, .int .i64 N] 24)).heap.size := by simp
  all_goals have QV := Aside0.mk (fun j s hj => be_cell vq (QW.out j s hj))
  all_goals clear hb hb2 hb3 z0 z1 z2 y0 y1 hg hg2 hg3 q0 q1 q2 r0 r1 r2 r3 r4 r5 f0 f1 f2 f3 f4 f5 QW vq
  all_goals generalize w3.alloc (.cells #[.int .u32 A, .int .i64 N] 24) = w5 at *
  all_goals have vn1 : w.heap.size + 1 ≠ w5.heap.size := Nat.ne_of_lt vs1
  all_goals have vn2 : w5.heap.size ≠ w.heap.size + 1 := vn1.symm
  all_goals have vn3 : w3.heap.size ≠ w5.heap.size := Nat.ne_of_lt vs2
  all_goals have vn4 : w5.heap.size ≠ w3.heap.size := vn3.symm
  all_goals go_region_held3 (fun W => W.cell? ⟨w.heap.size + 1, 0, none⟩ = some (.string s0) ∧ W.cell? ⟨w.heap.size + 1, 1, none⟩ = some (.string s1) ∧ W.cell? ⟨w3.heap.size, 0, none⟩ = some (.int .u32 A) ∧ W.cell? ⟨w3.heap.size, 1, none⟩ = some (.int .i64 N)) (go_keep) (first | (go_at_call 31; refine (hc _).mono ?_; rintro e w4 ⟨rfl, hb4⟩; (first | (have ordA : True := trivial; have h54 : Below w5.heap.size w5 w4 := ((Below.refl _ _).drew).trans hb4) | (have ordB : True := trivial; have h54 : Below w5.heap.size w5 w4 := (((Below.refl _ _).drew).alloc (Nat.le_refl _) _).trans (hb4.mono (by simp)); have hgx0 := (hb4.block w5.heap.size (by simp)).trans (al_mine w5.drew 0 false 0 0 0 0); obtain ⟨x0, x1, x2, x3, x4, x5, fx0, fx1, fx2, fx3, fx4, fx5⟩ := rc_all hgx0)); have j0 := be_cell h54 v0; have j1 := be_cell h54 v1; have j2 := be_cell h54 v2; have j3 := be_cell h54 v3; have js := Nat.lt_of_lt_of_le vs1 h54.size; have jt := Nat.lt_of_lt_of_le vs2 h54.size; have jz := h54.size))
  · have _t := ordA
    have HX : (w4.alloc (.cells #[.int .i64 m, .bool false, .int .u32 A, .int .i64 N, .int .i64 0, .int .i64 0] 26)).heap[w4.heap.size]? = some (ruleCells m false A N 0 0) := al_mine w4 m false A N 0 0
    have HG : (w4.alloc (.cells #[.int .i64 m, .bool false, .int .u32 A, .int .i64 N, .int .i64 0, .int .i64 0] 26)).heap[w.heap.size]? = some (ruleCells 0 false 0 0 0 0) := al_keep _ (be_keep h54 vg)
    have QW := Aside0.mk (fun (j : Nat) (s : ByteArray) (hj : xs[j]? = some s) => (show (w4.alloc (.cells #[.int .i64 m, .bool false, .int .u32 A, .int .i64 N, .int .i64 0, .int .i64 0] 26)).cell? ⟨w.heap.size + 1, j, none⟩ = some (.string s) from (World.cell?_alloc_lt w4 _ ⟨w.heap.size + 1, j, none⟩ js).trans (be_cell h54 (QV.out j s hj))))
    have B6 : Below w.heap.size w (w4.alloc (.cells #[.int .i64 m, .bool false, .int .u32 A, .int .i64 N, .int .i64 0, .int .i64 0] 26)) := be_al _ (be_go h54 vb (Nat.le_refl _)) (Nat.le_refl _)
    have gs : w4.heap.size < (w4.alloc (.cells #[.int .i64 m, .bool false, .int .u32 A, .int .i64 N, .int .i64 0, .int .i64 0] 26)).heap.size := by simp
    have gw : w.heap.size + 1 < w4.heap.size := js
    have bs : w.heap.size + 1 < (w4.alloc (.cells #[.int .i64 m, .bool false, .int .u32 A, .int .i64 N, .int .i64 0, .int .i64 0] 26)).heap.size := Nat.lt_trans gw gs
    clear ordA
    clear h54 vg vb hb4 v0 v1 v2 v3 vs1 vs2 vn1 vn2 vn3 vn4 QV j0 j1 j2 j3 js jt jz
    generalize w4.alloc (.cells #[.int .i64 m, .bool false, .int .u32 A, .int .i64 N, .int .i64 0, .int .i64 0] 26) = w6 at *
    generalize w4.heap.size = gx at *
    obtain ⟨r0, r1, r2, r3, r4, r5, f0, f1, f2, f3, f4, f5⟩ := rc_all HG
    go_wp2_with (first | (go_at_call 33; refine (HL.out _ gx HX QW.out gw).mono ?_; rintro e w7 ⟨rfl, hx7, hb7⟩; have hg7 := (hb7.block w.heap.size (by omega)).trans HG; have B7 : Below w.heap.size w w7 := B6.trans (hb7.mono (by omega)); clear r0 r1 r2 r3 r4 r5 f0 f1 f2 f3 f4 f5; obtain ⟨r0, r1, r2, r3, r4, r5, f0, f1, f2, f3, f4, f5⟩ := rc_all hg7; obtain ⟨x0, x1, x2, x3, x4, x5, y0, y1, y2, y3, y4, y5⟩ := rc_all hx7) | (go_at_call 10; refine (hM _).mono ?_; rintro e w8 ⟨rfl, hb8⟩; have hg8 := be_keep hb8 hg7; have hx8 := be_keep hb8 hx7; have B8 : Below w.heap.size w w8 := be_go hb8 B7 (Nat.le_refl _); clear r0 r1 r2 r3 r4 r5 f0 f1 f2 f3 f4 f5 x0 x1 x2 x3 x4 x5 y0 y1 y2 y3 y4 y5; obtain ⟨r0, r1, r2, r3, r4, r5, f0, f1, f2, f3, f4, f5⟩ := rc_all hg8; obtain ⟨x0, x1, x2, x3, x4, x5, y0, y1, y2, y3, y4, y5⟩ := rc_all hx8))
    exact bodyPost_ret (results_ct rfl _ _ w.heap.size 26 _ (0, 0) _ rfl (set6 hg8) Tryz.underlying26 rfl rfl) rfl ⟨rfl, set6_below B8 (Nat.le_refl _)⟩
  · have _t := ordB
    have HX : (((((((w4.setCell ⟨w5.heap.size, 0, none⟩ (.int .i64 m)).setCell ⟨w5.heap.size, 1, none⟩ (.bool false)).setCell ⟨w5.heap.size, 2, none⟩ (.int .u32 A)).setCell ⟨w5.heap.size, 3, none⟩ (.int .i64 N)).setCell ⟨w5.heap.size, 4, none⟩ (.int .i64 0)).setCell ⟨w5.heap.size, 5, none⟩ (.int .i64 0))).heap[w5.heap.size]? = some (ruleCells m false A N 0 0) := set6 hgx0
    have HG : (((((((w4.setCell ⟨w5.heap.size, 0, none⟩ (.int .i64 m)).setCell ⟨w5.heap.size, 1, none⟩ (.bool false)).setCell ⟨w5.heap.size, 2, none⟩ (.int .u32 A)).setCell ⟨w5.heap.size, 3, none⟩ (.int .i64 N)).setCell ⟨w5.heap.size, 4, none⟩ (.int .i64 0)).setCell ⟨w5.heap.size, 5, none⟩ (.int .i64 0))).heap[w.heap.size]? = some (ruleCells 0 false 0 0 0 0) := (set6_far (by omega)).trans (be_keep h54 vg)
    have QW := Aside0.mk (fun (j : Nat) (s : ByteArray) (hj : xs[j]? = some s) => (show (((((((w4.setCell ⟨w5.heap.size, 0, none⟩ (.int .i64 m)).setCell ⟨w5.heap.size, 1, none⟩ (.bool false)).setCell ⟨w5.heap.size, 2, none⟩ (.int .u32 A)).setCell ⟨w5.heap.size, 3, none⟩ (.int .i64 N)).setCell ⟨w5.heap.size, 4, none⟩ (.int .i64 0)).setCell ⟨w5.heap.size, 5, none⟩ (.int .i64 0))).cell? ⟨w.heap.size + 1, j, none⟩ = some (.string s) from (World.cell?_of_block (set6_far (by omega))).trans (be_cell h54 (QV.out j s hj))))
    have B6 : Below w.heap.size w (((((((w4.setCell ⟨w5.heap.size, 0, none⟩ (.int .i64 m)).setCell ⟨w5.heap.size, 1, none⟩ (.bool false)).setCell ⟨w5.heap.size, 2, none⟩ (.int .u32 A)).setCell ⟨w5.heap.size, 3, none⟩ (.int .i64 N)).setCell ⟨w5.heap.size, 4, none⟩ (.int .i64 0)).setCell ⟨w5.heap.size, 5, none⟩ (.int .i64 0))) := set6_below (be_go h54 vb (Nat.le_refl _)) (by omega)
    have gs : w5.heap.size < (((((((w4.setCell ⟨w5.heap.size, 0, none⟩ (.int .i64 m)).setCell ⟨w5.heap.size, 1, none⟩ (.bool false)).setCell ⟨w5.heap.size, 2, none⟩ (.int .u32 A)).setCell ⟨w5.heap.size, 3, none⟩ (.int .i64 N)).setCell ⟨w5.heap.size, 4, none⟩ (.int .i64 0)).setCell ⟨w5.heap.size, 5, none⟩ (.int .i64 0))).heap.size := by have q := blk_lt hgx0; simpa [World.setCell] using q
    have gw : w.heap.size + 1 < w5.heap.size := vs1
    have bs : w.heap.size + 1 < (((((((w4.setCell ⟨w5.heap.size, 0, none⟩ (.int .i64 m)).setCell ⟨w5.heap.size, 1, none⟩ (.bool false)).setCell ⟨w5.heap.size, 2, none⟩ (.int .u32 A)).setCell ⟨w5.heap.size, 3, none⟩ (.int .i64 N)).setCell ⟨w5.heap.size, 4, none⟩ (.int .i64 0)).setCell ⟨w5.heap.size, 5, none⟩ (.int .i64 0))).heap.size := Nat.lt_trans gw gs
    clear ordB hgx0 x0 x1 x2 x3 x4 x5 fx0 fx1 fx2 fx3 fx4 fx5
    clear h54 vg vb hb4 v0 v1 v2 v3 vs1 vs2 vn1 vn2 vn3 vn4 QV j0 j1 j2 j3 js jt jz
    generalize ((((((w4.setCell ⟨w5.heap.size, 0, none⟩ (.int .i64 m)).setCell ⟨w5.heap.size, 1, none⟩ (.bool false)).setCell ⟨w5.heap.size, 2, none⟩ (.int .u32 A)).setCell ⟨w5.heap.size, 3, none⟩ (.int .i64 N)).setCell ⟨w5.heap.size, 4, none⟩ (.int .i64 0)).setCell ⟨w5.heap.size, 5, none⟩ (.int .i64 0)) = w6 at *
    generalize w5.heap.size = gx at *
    obtain ⟨r0, r1, r2, r3, r4, r5, f0, f1, f2, f3, f4, f5⟩ := rc_all HG
    go_wp2_with (first | (go_at_call 33; refine (HL.out _ gx HX QW.out gw).mono ?_; rintro e w7 ⟨rfl, hx7, hb7⟩; have hg7 := (hb7.block w.heap.size (by omega)).trans HG; have B7 : Below w.heap.size w w7 := B6.trans (hb7.mono (by omega)); clear r0 r1 r2 r3 r4 r5 f0 f1 f2 f3 f4 f5; obtain ⟨r0, r1, r2, r3, r4, r5, f0, f1, f2, f3, f4, f5⟩ := rc_all hg7; obtain ⟨x0, x1, x2, x3, x4, x5, y0, y1, y2, y3, y4, y5⟩ := rc_all hx7) | (go_at_call 10; refine (hM _).mono ?_; rintro e w8 ⟨rfl, hb8⟩; have hg8 := be_keep hb8 hg7; have hx8 := be_keep hb8 hx7; have B8 : Below w.heap.size w w8 := be_go hb8 B7 (Nat.le_refl _); clear r0 r1 r2 r3 r4 r5 f0 f1 f2 f3 f4 f5 x0 x1 x2 x3 x4 x5 y0 y1 y2 y3 y4 y5; obtain ⟨r0, r1, r2, r3, r4, r5, f0, f1, f2, f3, f4, f5⟩ := rc_all hg8; obtain ⟨x0, x1, x2, x3, x4, x5, y0, y1, y2, y3, y4, y5⟩ := rc_all hx8))
    exact bodyPost_ret (results_ct rfl _ _ w.heap.size 26 _ (0, 0) _ rfl (set6 hg8) Tryz.underlying26 rfl rfl) rfl ⟨rfl, set6_below B8 (Nat.le_refl _)⟩
set_option maxRecDepth 20000 in
set_option maxHeartbeats 4000000 in
theorem parse_o3_true (a0 : ByteArray) (xs : List ByteArray) (w : World) (s0 s1 s2 : ByteArray) (m : Int) (hx0 : xs[0]? = some s0) (hx1 : xs[1]? = some s1) (hx2 : xs[2]? = some s2)
    (hS : ∀ W : World, Below w.heap.size w W → Calls Tryz.prog 30 #[.string a0, .string ⟨#[32]⟩] W fun e w' => e = .returned (.slice (some ⟨W.heap.size, 0, none⟩) xs.length xs.length) ∧ Words W w' xs) (hl : decide ((xs.length : Int) < 3) = false)
    (hn : plist_number.f s0 = some m) (hm : (m == 0) = false) (hs1 : (s1.toList == [112, 101, 114, 109, 105, 116]) = true)  (A N : Int)
    (hA : ∀ W : World, Below w.heap.size w W → Calls Tryz.prog 32 #[.string s2] W fun e w' => e = .returned (.tuple #[.agg #[.int .u32 A, .int .i64 N], .int .i64 0]) ∧ Below W.heap.size W w') (ge le : Int) (hx3 : xs.length = 3) (hL : ∀ (W : World) (gx : Nat), W.heap[gx]? = some (ruleCells m true A N 0 0) → (∀ (j : Nat) (s : ByteArray), xs[j]? = some s → W.cell? ⟨w.heap.size + 1, j, none⟩ = some (.string s)) → w.heap.size + 1 < gx →
      Calls Tryz.prog 33 #[.pointer (some ⟨gx, 0, none⟩), .slice (some ⟨w.heap.size + 1, 0, none⟩) 0 0] W fun e w' => LimPost gx m true A N ge le true W e w') (hM : ∀ W : World, Calls Tryz.prog 10 #[.agg #[.int .i64 m, .bool true, .int .u32 A, .int .i64 N, .int .i64 ge, .int .i64 le]] W fun e w' => e = .returned (.bool true) ∧ Below W.heap.size W w') :
    Calls Tryz.prog 8 #[.string a0] w fun e w' => e = .returned (.tuple #[.agg #[.int .i64 m, .bool true, .int .u32 A, .int .i64 N, .int .i64 ge, .int .i64 le], .int .i64 0]) ∧ Below w.heap.size w w' := by
  have h0 : 0 < (xs.length : Int) := by simp at hl; omega
  have h1 : 1 < (xs.length : Int) := by simp at hl; omega
  have h2 : 0 < xs.length := by omega
  have h3 : 1 < xs.length := by omega
  have h4 : ¬ (xs.length : Int) < 3 := by simp at hl; omega
  have h5 : 2 < (xs.length : Int) := by simp at hl; omega
  have h6 : 2 < xs.length := by omega
  have hc := fun W => plist_number.calls s0 m W hn
  clear hn
  have h3z : (3 : Int) ≤ (xs.length : Int) := by simp at hl; omega
  have HL := Aside0.mk hL
  clear hL
  go_enter Tryz.func8, Tryz.ntmps8
  go_wp2_with (first | (go_at_call 30; refine (hS _ (be_al _ (Below.refl _ _) (Nat.le_refl _))).mono ?_; rintro e w' ⟨rfl, hb, qs, qw⟩; replace qs : w.heap.size + 1 < w'.heap.size := (by simpa using qs); have q0 : w'.cell? ⟨w.heap.size + 1, 0, none⟩ = some (.string s0) := (by simpa using qw 0 s0 hx0); have q1 : w'.cell? ⟨w.heap.size + 1, 1, none⟩ = some (.string s1) := (by simpa using qw 1 s1 hx1); have q2 : w'.cell? ⟨w.heap.size + 1, 2, none⟩ = some (.string s2) := (by simpa using qw 2 s2 hx2); have hg := be_keep hb (al_mine w 0 false 0 0 0 0); have QW := Aside0.mk (show ∀ (j : Nat) (s : ByteArray), xs[j]? = some s → w'.cell? ⟨w.heap.size + 1, j, none⟩ = some (.string s) from fun j s hj => by simpa using qw j s hj); clear qw) | (go_at_call 31; refine (hc _).mono ?_; rintro e w2 ⟨rfl, hb2⟩; have z0 := be_cell hb2 q0; have z1 := be_cell hb2 q1; have z2 := be_cell hb2 q2; have hg2 := be_keep hb2 hg; obtain ⟨r0, r1, r2, r3, r4, r5, f0, f1, f2, f3, f4, f5⟩ := rc_all hg2) | (go_at_call 32; refine (hA _ (be_go hb2 (be_go hb (be_al _ (Below.refl _ _) (Nat.le_refl _)) (Nat.le_refl _)) (Nat.le_refl _))).mono ?_; rintro e w3 ⟨rfl, hb3⟩; have hg3 := be_keep hb3 hg2))
  all_goals have v2 : (w3.alloc (.cells #[.int .u32 A, .int .i64 N] 24)).cell? ⟨w3.heap.size, 0, none⟩ = some (.int .u32 A) := (al_new rfl).trans rfl
  all_goals have v3 : (w3.alloc (.cells #[.int .u32 A, .int .i64 N] 24)).cell? ⟨w3.heap.size, 1, none⟩ = some (.int .i64 N) := (al_new rfl).trans rfl
  all_goals have y0 := be_cell hb3 z0
  all_goals have y1 := be_cell hb3 z1
  all_goals have v0 := (World.cell?_alloc_some w3 _ (.cells #[.int .u32 A, .int .i64 N] 24) (by rw [y0]; rfl)).trans y0
  all_goals have v1 := (World.cell?_alloc_some w3 _ (.cells #[.int .u32 A, .int .i64 N] 24) (by rw [y1]; rfl)).trans y1
  all_goals have vg := al_keep (.cells #[.int .u32 A, .int .i64 N] 24) hg3
  all_goals have vb : Below w.heap.size w (w3.alloc (.cells #[.int .u32 A, .int .i64 N] 24)) := by (repeat with_reducible first | exact Below.refl _ _ | apply Below.drew | refine be_al _ ?_ (Nat.le_refl _) | refine be_set _ _ ?_ (Nat.le_refl _) | refine be_go hb3 ?_ (Nat.le_refl _) | refine be_go hb2 ?_ (Nat.le_refl _) | refine be_go hb ?_ (Nat.le_refl _))
  all_goals have vq : Below w'.heap.size w' (w3.alloc (.cells #[.int .u32 A, .int .i64 N] 24)) := ((hb2.trans (hb3.mono hb2.size)).alloc (Nat.le_trans hb2.size hb3.size) _)
  all_goals have vs1 : w.heap.size + 1 < (w3.alloc (.cells #[.int .u32 A, .int .i64 N] 24)).heap.size := Nat.lt_of_lt_of_le qs vq.size
  all_goals have vs2 : w3.heap.size < (w3.alloc (.cells #[.int .u32 A, .int .i64 N] 24)).heap.size := by simp
  all_goals have QV := Aside0.mk (fun j s hj => be_cell vq (QW.out j s hj))
  all_goals clear hb hb2 hb3 z0 z1 z2 y0 y1 hg hg2 hg3 q0 q1 q2 r0 r1 r2 r3 r4 r5 f0 f1 f2 f3 f4 f5 QW vq
  all_goals generalize w3.alloc (.cells #[.int .u32 A, .int .i64 N] 24) = w5 at *
  all_goals have vn1 : w.heap.size + 1 ≠ w5.heap.size := Nat.ne_of_lt vs1
  all_goals have vn2 : w5.heap.size ≠ w.heap.size + 1 := vn1.symm
  all_goals have vn3 : w3.heap.size ≠ w5.heap.size := Nat.ne_of_lt vs2
  all_goals have vn4 : w5.heap.size ≠ w3.heap.size := vn3.symm
  all_goals go_region_held3 (fun W => W.cell? ⟨w.heap.size + 1, 0, none⟩ = some (.string s0) ∧ W.cell? ⟨w.heap.size + 1, 1, none⟩ = some (.string s1) ∧ W.cell? ⟨w3.heap.size, 0, none⟩ = some (.int .u32 A) ∧ W.cell? ⟨w3.heap.size, 1, none⟩ = some (.int .i64 N)) (go_keep) (first | (go_at_call 31; refine (hc _).mono ?_; rintro e w4 ⟨rfl, hb4⟩; (first | (have ordA : True := trivial; have h54 : Below w5.heap.size w5 w4 := ((Below.refl _ _).drew).trans hb4) | (have ordB : True := trivial; have h54 : Below w5.heap.size w5 w4 := (((Below.refl _ _).drew).alloc (Nat.le_refl _) _).trans (hb4.mono (by simp)); have hgx0 := (hb4.block w5.heap.size (by simp)).trans (al_mine w5.drew 0 false 0 0 0 0); obtain ⟨x0, x1, x2, x3, x4, x5, fx0, fx1, fx2, fx3, fx4, fx5⟩ := rc_all hgx0)); have j0 := be_cell h54 v0; have j1 := be_cell h54 v1; have j2 := be_cell h54 v2; have j3 := be_cell h54 v3; have js := Nat.lt_of_lt_of_le vs1 h54.size; have jt := Nat.lt_of_lt_of_le vs2 h54.size; have jz := h54.size))
  · have _t := ordA
    have HX : (w4.alloc (.cells #[.int .i64 m, .bool true, .int .u32 A, .int .i64 N, .int .i64 0, .int .i64 0] 26)).heap[w4.heap.size]? = some (ruleCells m true A N 0 0) := al_mine w4 m true A N 0 0
    have HG : (w4.alloc (.cells #[.int .i64 m, .bool true, .int .u32 A, .int .i64 N, .int .i64 0, .int .i64 0] 26)).heap[w.heap.size]? = some (ruleCells 0 false 0 0 0 0) := al_keep _ (be_keep h54 vg)
    have QW := Aside0.mk (fun (j : Nat) (s : ByteArray) (hj : xs[j]? = some s) => (show (w4.alloc (.cells #[.int .i64 m, .bool true, .int .u32 A, .int .i64 N, .int .i64 0, .int .i64 0] 26)).cell? ⟨w.heap.size + 1, j, none⟩ = some (.string s) from (World.cell?_alloc_lt w4 _ ⟨w.heap.size + 1, j, none⟩ js).trans (be_cell h54 (QV.out j s hj))))
    have B6 : Below w.heap.size w (w4.alloc (.cells #[.int .i64 m, .bool true, .int .u32 A, .int .i64 N, .int .i64 0, .int .i64 0] 26)) := be_al _ (be_go h54 vb (Nat.le_refl _)) (Nat.le_refl _)
    have gs : w4.heap.size < (w4.alloc (.cells #[.int .i64 m, .bool true, .int .u32 A, .int .i64 N, .int .i64 0, .int .i64 0] 26)).heap.size := by simp
    have gw : w.heap.size + 1 < w4.heap.size := js
    have bs : w.heap.size + 1 < (w4.alloc (.cells #[.int .i64 m, .bool true, .int .u32 A, .int .i64 N, .int .i64 0, .int .i64 0] 26)).heap.size := Nat.lt_trans gw gs
    clear ordA
    clear h54 vg vb hb4 v0 v1 v2 v3 vs1 vs2 vn1 vn2 vn3 vn4 QV j0 j1 j2 j3 js jt jz
    generalize w4.alloc (.cells #[.int .i64 m, .bool true, .int .u32 A, .int .i64 N, .int .i64 0, .int .i64 0] 26) = w6 at *
    generalize w4.heap.size = gx at *
    obtain ⟨r0, r1, r2, r3, r4, r5, f0, f1, f2, f3, f4, f5⟩ := rc_all HG
    go_wp2_with (first | (go_at_call 33; refine (HL.out _ gx HX QW.out gw).mono ?_; rintro e w7 ⟨rfl, hx7, hb7⟩; have hg7 := (hb7.block w.heap.size (by omega)).trans HG; have B7 : Below w.heap.size w w7 := B6.trans (hb7.mono (by omega)); clear r0 r1 r2 r3 r4 r5 f0 f1 f2 f3 f4 f5; obtain ⟨r0, r1, r2, r3, r4, r5, f0, f1, f2, f3, f4, f5⟩ := rc_all hg7; obtain ⟨x0, x1, x2, x3, x4, x5, y0, y1, y2, y3, y4, y5⟩ := rc_all hx7) | (go_at_call 10; refine (hM _).mono ?_; rintro e w8 ⟨rfl, hb8⟩; have hg8 := be_keep hb8 hg7; have hx8 := be_keep hb8 hx7; have B8 : Below w.heap.size w w8 := be_go hb8 B7 (Nat.le_refl _); clear r0 r1 r2 r3 r4 r5 f0 f1 f2 f3 f4 f5 x0 x1 x2 x3 x4 x5 y0 y1 y2 y3 y4 y5; obtain ⟨r0, r1, r2, r3, r4, r5, f0, f1, f2, f3, f4, f5⟩ := rc_all hg8; obtain ⟨x0, x1, x2, x3, x4, x5, y0, y1, y2, y3, y4, y5⟩ := rc_all hx8))
    exact bodyPost_ret (results_ct rfl _ _ w.heap.size 26 _ (0, 0) _ rfl (set6 hg8) Tryz.underlying26 rfl rfl) rfl ⟨rfl, set6_below B8 (Nat.le_refl _)⟩
  · have _t := ordB
    have HX : (((((((w4.setCell ⟨w5.heap.size, 0, none⟩ (.int .i64 m)).setCell ⟨w5.heap.size, 1, none⟩ (.bool true)).setCell ⟨w5.heap.size, 2, none⟩ (.int .u32 A)).setCell ⟨w5.heap.size, 3, none⟩ (.int .i64 N)).setCell ⟨w5.heap.size, 4, none⟩ (.int .i64 0)).setCell ⟨w5.heap.size, 5, none⟩ (.int .i64 0))).heap[w5.heap.size]? = some (ruleCells m true A N 0 0) := set6 hgx0
    have HG : (((((((w4.setCell ⟨w5.heap.size, 0, none⟩ (.int .i64 m)).setCell ⟨w5.heap.size, 1, none⟩ (.bool true)).setCell ⟨w5.heap.size, 2, none⟩ (.int .u32 A)).setCell ⟨w5.heap.size, 3, none⟩ (.int .i64 N)).setCell ⟨w5.heap.size, 4, none⟩ (.int .i64 0)).setCell ⟨w5.heap.size, 5, none⟩ (.int .i64 0))).heap[w.heap.size]? = some (ruleCells 0 false 0 0 0 0) := (set6_far (by omega)).trans (be_keep h54 vg)
    have QW := Aside0.mk (fun (j : Nat) (s : ByteArray) (hj : xs[j]? = some s) => (show (((((((w4.setCell ⟨w5.heap.size, 0, none⟩ (.int .i64 m)).setCell ⟨w5.heap.size, 1, none⟩ (.bool true)).setCell ⟨w5.heap.size, 2, none⟩ (.int .u32 A)).setCell ⟨w5.heap.size, 3, none⟩ (.int .i64 N)).setCell ⟨w5.heap.size, 4, none⟩ (.int .i64 0)).setCell ⟨w5.heap.size, 5, none⟩ (.int .i64 0))).cell? ⟨w.heap.size + 1, j, none⟩ = some (.string s) from (World.cell?_of_block (set6_far (by omega))).trans (be_cell h54 (QV.out j s hj))))
    have B6 : Below w.heap.size w (((((((w4.setCell ⟨w5.heap.size, 0, none⟩ (.int .i64 m)).setCell ⟨w5.heap.size, 1, none⟩ (.bool true)).setCell ⟨w5.heap.size, 2, none⟩ (.int .u32 A)).setCell ⟨w5.heap.size, 3, none⟩ (.int .i64 N)).setCell ⟨w5.heap.size, 4, none⟩ (.int .i64 0)).setCell ⟨w5.heap.size, 5, none⟩ (.int .i64 0))) := set6_below (be_go h54 vb (Nat.le_refl _)) (by omega)
    have gs : w5.heap.size < (((((((w4.setCell ⟨w5.heap.size, 0, none⟩ (.int .i64 m)).setCell ⟨w5.heap.size, 1, none⟩ (.bool true)).setCell ⟨w5.heap.size, 2, none⟩ (.int .u32 A)).setCell ⟨w5.heap.size, 3, none⟩ (.int .i64 N)).setCell ⟨w5.heap.size, 4, none⟩ (.int .i64 0)).setCell ⟨w5.heap.size, 5, none⟩ (.int .i64 0))).heap.size := by have q := blk_lt hgx0; simpa [World.setCell] using q
    have gw : w.heap.size + 1 < w5.heap.size := vs1
    have bs : w.heap.size + 1 < (((((((w4.setCell ⟨w5.heap.size, 0, none⟩ (.int .i64 m)).setCell ⟨w5.heap.size, 1, none⟩ (.bool true)).setCell ⟨w5.heap.size, 2, none⟩ (.int .u32 A)).setCell ⟨w5.heap.size, 3, none⟩ (.int .i64 N)).setCell ⟨w5.heap.size, 4, none⟩ (.int .i64 0)).setCell ⟨w5.heap.size, 5, none⟩ (.int .i64 0))).heap.size := Nat.lt_trans gw gs
    clear ordB hgx0 x0 x1 x2 x3 x4 x5 fx0 fx1 fx2 fx3 fx4 fx5
    clear h54 vg vb hb4 v0 v1 v2 v3 vs1 vs2 vn1 vn2 vn3 vn4 QV j0 j1 j2 j3 js jt jz
    generalize ((((((w4.setCell ⟨w5.heap.size, 0, none⟩ (.int .i64 m)).setCell ⟨w5.heap.size, 1, none⟩ (.bool true)).setCell ⟨w5.heap.size, 2, none⟩ (.int .u32 A)).setCell ⟨w5.heap.size, 3, none⟩ (.int .i64 N)).setCell ⟨w5.heap.size, 4, none⟩ (.int .i64 0)).setCell ⟨w5.heap.size, 5, none⟩ (.int .i64 0)) = w6 at *
    generalize w5.heap.size = gx at *
    obtain ⟨r0, r1, r2, r3, r4, r5, f0, f1, f2, f3, f4, f5⟩ := rc_all HG
    go_wp2_with (first | (go_at_call 33; refine (HL.out _ gx HX QW.out gw).mono ?_; rintro e w7 ⟨rfl, hx7, hb7⟩; have hg7 := (hb7.block w.heap.size (by omega)).trans HG; have B7 : Below w.heap.size w w7 := B6.trans (hb7.mono (by omega)); clear r0 r1 r2 r3 r4 r5 f0 f1 f2 f3 f4 f5; obtain ⟨r0, r1, r2, r3, r4, r5, f0, f1, f2, f3, f4, f5⟩ := rc_all hg7; obtain ⟨x0, x1, x2, x3, x4, x5, y0, y1, y2, y3, y4, y5⟩ := rc_all hx7) | (go_at_call 10; refine (hM _).mono ?_; rintro e w8 ⟨rfl, hb8⟩; have hg8 := be_keep hb8 hg7; have hx8 := be_keep hb8 hx7; have B8 : Below w.heap.size w w8 := be_go hb8 B7 (Nat.le_refl _); clear r0 r1 r2 r3 r4 r5 f0 f1 f2 f3 f4 f5 x0 x1 x2 x3 x4 x5 y0 y1 y2 y3 y4 y5; obtain ⟨r0, r1, r2, r3, r4, r5, f0, f1, f2, f3, f4, f5⟩ := rc_all hg8; obtain ⟨x0, x1, x2, x3, x4, x5, y0, y1, y2, y3, y4, y5⟩ := rc_all hx8))
    exact bodyPost_ret (results_ct rfl _ _ w.heap.size 26 _ (0, 0) _ rfl (set6 hg8) Tryz.underlying26 rfl rfl) rfl ⟨rfl, set6_below B8 (Nat.le_refl _)⟩
set_option maxRecDepth 20000 in
set_option maxHeartbeats 4000000 in
theorem parse_o3_false (a0 : ByteArray) (xs : List ByteArray) (w : World) (s0 s1 s2 : ByteArray) (m : Int) (hx0 : xs[0]? = some s0) (hx1 : xs[1]? = some s1) (hx2 : xs[2]? = some s2)
    (hS : ∀ W : World, Below w.heap.size w W → Calls Tryz.prog 30 #[.string a0, .string ⟨#[32]⟩] W fun e w' => e = .returned (.slice (some ⟨W.heap.size, 0, none⟩) xs.length xs.length) ∧ Words W w' xs) (hl : decide ((xs.length : Int) < 3) = false)
    (hn : plist_number.f s0 = some m) (hm : (m == 0) = false) (hs1 : (s1.toList == [112, 101, 114, 109, 105, 116]) = false) (hs3 : (s1.toList == [100, 101, 110, 121]) = true) (A N : Int)
    (hA : ∀ W : World, Below w.heap.size w W → Calls Tryz.prog 32 #[.string s2] W fun e w' => e = .returned (.tuple #[.agg #[.int .u32 A, .int .i64 N], .int .i64 0]) ∧ Below W.heap.size W w') (ge le : Int) (hx3 : xs.length = 3) (hL : ∀ (W : World) (gx : Nat), W.heap[gx]? = some (ruleCells m false A N 0 0) → (∀ (j : Nat) (s : ByteArray), xs[j]? = some s → W.cell? ⟨w.heap.size + 1, j, none⟩ = some (.string s)) → w.heap.size + 1 < gx →
      Calls Tryz.prog 33 #[.pointer (some ⟨gx, 0, none⟩), .slice (some ⟨w.heap.size + 1, 0, none⟩) 0 0] W fun e w' => LimPost gx m false A N ge le true W e w') (hM : ∀ W : World, Calls Tryz.prog 10 #[.agg #[.int .i64 m, .bool false, .int .u32 A, .int .i64 N, .int .i64 ge, .int .i64 le]] W fun e w' => e = .returned (.bool true) ∧ Below W.heap.size W w') :
    Calls Tryz.prog 8 #[.string a0] w fun e w' => e = .returned (.tuple #[.agg #[.int .i64 m, .bool false, .int .u32 A, .int .i64 N, .int .i64 ge, .int .i64 le], .int .i64 0]) ∧ Below w.heap.size w w' := by
  have h0 : 0 < (xs.length : Int) := by simp at hl; omega
  have h1 : 1 < (xs.length : Int) := by simp at hl; omega
  have h2 : 0 < xs.length := by omega
  have h3 : 1 < xs.length := by omega
  have h4 : ¬ (xs.length : Int) < 3 := by simp at hl; omega
  have h5 : 2 < (xs.length : Int) := by simp at hl; omega
  have h6 : 2 < xs.length := by omega
  have hc := fun W => plist_number.calls s0 m W hn
  clear hn
  have h3z : (3 : Int) ≤ (xs.length : Int) := by simp at hl; omega
  have HL := Aside0.mk hL
  clear hL
  go_enter Tryz.func8, Tryz.ntmps8
  go_wp2_with (first | (go_at_call 30; refine (hS _ (be_al _ (Below.refl _ _) (Nat.le_refl _))).mono ?_; rintro e w' ⟨rfl, hb, qs, qw⟩; replace qs : w.heap.size + 1 < w'.heap.size := (by simpa using qs); have q0 : w'.cell? ⟨w.heap.size + 1, 0, none⟩ = some (.string s0) := (by simpa using qw 0 s0 hx0); have q1 : w'.cell? ⟨w.heap.size + 1, 1, none⟩ = some (.string s1) := (by simpa using qw 1 s1 hx1); have q2 : w'.cell? ⟨w.heap.size + 1, 2, none⟩ = some (.string s2) := (by simpa using qw 2 s2 hx2); have hg := be_keep hb (al_mine w 0 false 0 0 0 0); have QW := Aside0.mk (show ∀ (j : Nat) (s : ByteArray), xs[j]? = some s → w'.cell? ⟨w.heap.size + 1, j, none⟩ = some (.string s) from fun j s hj => by simpa using qw j s hj); clear qw) | (go_at_call 31; refine (hc _).mono ?_; rintro e w2 ⟨rfl, hb2⟩; have z0 := be_cell hb2 q0; have z1 := be_cell hb2 q1; have z2 := be_cell hb2 q2; have hg2 := be_keep hb2 hg; obtain ⟨r0, r1, r2, r3, r4, r5, f0, f1, f2, f3, f4, f5⟩ := rc_all hg2) | (go_at_call 32; refine (hA _ (be_go hb2 (be_go hb (be_al _ (Below.refl _ _) (Nat.le_refl _)) (Nat.le_refl _)) (Nat.le_refl _))).mono ?_; rintro e w3 ⟨rfl, hb3⟩; have hg3 := be_keep hb3 hg2))
  all_goals have v2 : (w3.alloc (.cells #[.int .u32 A, .int .i64 N] 24)).cell? ⟨w3.heap.size, 0, none⟩ = some (.int .u32 A) := (al_new rfl).trans rfl
  all_goals have v3 : (w3.alloc (.cells #[.int .u32 A, .int .i64 N] 24)).cell? ⟨w3.heap.size, 1, none⟩ = some (.int .i64 N) := (al_new rfl).trans rfl
  all_goals have y0 := be_cell hb3 z0
  all_goals have y1 := be_cell hb3 z1
  all_goals have v0 := (World.cell?_alloc_some w3 _ (.cells #[.int .u32 A, .int .i64 N] 24) (by rw [y0]; rfl)).trans y0
  all_goals have v1 := (World.cell?_alloc_some w3 _ (.cells #[.int .u32 A, .int .i64 N] 24) (by rw [y1]; rfl)).trans y1
  all_goals have vg := al_keep (.cells #[.int .u32 A, .int .i64 N] 24) hg3
  all_goals have vb : Below w.heap.size w (w3.alloc (.cells #[.int .u32 A, .int .i64 N] 24)) := by (repeat with_reducible first | exact Below.refl _ _ | apply Below.drew | refine be_al _ ?_ (Nat.le_refl _) | refine be_set _ _ ?_ (Nat.le_refl _) | refine be_go hb3 ?_ (Nat.le_refl _) | refine be_go hb2 ?_ (Nat.le_refl _) | refine be_go hb ?_ (Nat.le_refl _))
  all_goals have vq : Below w'.heap.size w' (w3.alloc (.cells #[.int .u32 A, .int .i64 N] 24)) := ((hb2.trans (hb3.mono hb2.size)).alloc (Nat.le_trans hb2.size hb3.size) _)
  all_goals have vs1 : w.heap.size + 1 < (w3.alloc (.cells #[.int .u32 A, .int .i64 N] 24)).heap.size := Nat.lt_of_lt_of_le qs vq.size
  all_goals have vs2 : w3.heap.size < (w3.alloc (.cells #[.int .u32 A, .int .i64 N] 24)).heap.size := by simp
  all_goals have QV := Aside0.mk (fun j s hj => be_cell vq (QW.out j s hj))
  all_goals clear hb hb2 hb3 z0 z1 z2 y0 y1 hg hg2 hg3 q0 q1 q2 r0 r1 r2 r3 r4 r5 f0 f1 f2 f3 f4 f5 QW vq
  all_goals generalize w3.alloc (.cells #[.int .u32 A, .int .i64 N] 24) = w5 at *
  all_goals have vn1 : w.heap.size + 1 ≠ w5.heap.size := Nat.ne_of_lt vs1
  all_goals have vn2 : w5.heap.size ≠ w.heap.size + 1 := vn1.symm
  all_goals have vn3 : w3.heap.size ≠ w5.heap.size := Nat.ne_of_lt vs2
  all_goals have vn4 : w5.heap.size ≠ w3.heap.size := vn3.symm
  all_goals go_region_held3 (fun W => W.cell? ⟨w.heap.size + 1, 0, none⟩ = some (.string s0) ∧ W.cell? ⟨w.heap.size + 1, 1, none⟩ = some (.string s1) ∧ W.cell? ⟨w3.heap.size, 0, none⟩ = some (.int .u32 A) ∧ W.cell? ⟨w3.heap.size, 1, none⟩ = some (.int .i64 N)) (go_keep) (first | (go_at_call 31; refine (hc _).mono ?_; rintro e w4 ⟨rfl, hb4⟩; (first | (have ordA : True := trivial; have h54 : Below w5.heap.size w5 w4 := ((Below.refl _ _).drew).trans hb4) | (have ordB : True := trivial; have h54 : Below w5.heap.size w5 w4 := (((Below.refl _ _).drew).alloc (Nat.le_refl _) _).trans (hb4.mono (by simp)); have hgx0 := (hb4.block w5.heap.size (by simp)).trans (al_mine w5.drew 0 false 0 0 0 0); obtain ⟨x0, x1, x2, x3, x4, x5, fx0, fx1, fx2, fx3, fx4, fx5⟩ := rc_all hgx0)); have j0 := be_cell h54 v0; have j1 := be_cell h54 v1; have j2 := be_cell h54 v2; have j3 := be_cell h54 v3; have js := Nat.lt_of_lt_of_le vs1 h54.size; have jt := Nat.lt_of_lt_of_le vs2 h54.size; have jz := h54.size))
  · have _t := ordA
    have HX : (w4.alloc (.cells #[.int .i64 m, .bool false, .int .u32 A, .int .i64 N, .int .i64 0, .int .i64 0] 26)).heap[w4.heap.size]? = some (ruleCells m false A N 0 0) := al_mine w4 m false A N 0 0
    have HG : (w4.alloc (.cells #[.int .i64 m, .bool false, .int .u32 A, .int .i64 N, .int .i64 0, .int .i64 0] 26)).heap[w.heap.size]? = some (ruleCells 0 false 0 0 0 0) := al_keep _ (be_keep h54 vg)
    have QW := Aside0.mk (fun (j : Nat) (s : ByteArray) (hj : xs[j]? = some s) => (show (w4.alloc (.cells #[.int .i64 m, .bool false, .int .u32 A, .int .i64 N, .int .i64 0, .int .i64 0] 26)).cell? ⟨w.heap.size + 1, j, none⟩ = some (.string s) from (World.cell?_alloc_lt w4 _ ⟨w.heap.size + 1, j, none⟩ js).trans (be_cell h54 (QV.out j s hj))))
    have B6 : Below w.heap.size w (w4.alloc (.cells #[.int .i64 m, .bool false, .int .u32 A, .int .i64 N, .int .i64 0, .int .i64 0] 26)) := be_al _ (be_go h54 vb (Nat.le_refl _)) (Nat.le_refl _)
    have gs : w4.heap.size < (w4.alloc (.cells #[.int .i64 m, .bool false, .int .u32 A, .int .i64 N, .int .i64 0, .int .i64 0] 26)).heap.size := by simp
    have gw : w.heap.size + 1 < w4.heap.size := js
    have bs : w.heap.size + 1 < (w4.alloc (.cells #[.int .i64 m, .bool false, .int .u32 A, .int .i64 N, .int .i64 0, .int .i64 0] 26)).heap.size := Nat.lt_trans gw gs
    clear ordA
    clear h54 vg vb hb4 v0 v1 v2 v3 vs1 vs2 vn1 vn2 vn3 vn4 QV j0 j1 j2 j3 js jt jz
    generalize w4.alloc (.cells #[.int .i64 m, .bool false, .int .u32 A, .int .i64 N, .int .i64 0, .int .i64 0] 26) = w6 at *
    generalize w4.heap.size = gx at *
    obtain ⟨r0, r1, r2, r3, r4, r5, f0, f1, f2, f3, f4, f5⟩ := rc_all HG
    go_wp2_with (first | (go_at_call 33; refine (HL.out _ gx HX QW.out gw).mono ?_; rintro e w7 ⟨rfl, hx7, hb7⟩; have hg7 := (hb7.block w.heap.size (by omega)).trans HG; have B7 : Below w.heap.size w w7 := B6.trans (hb7.mono (by omega)); clear r0 r1 r2 r3 r4 r5 f0 f1 f2 f3 f4 f5; obtain ⟨r0, r1, r2, r3, r4, r5, f0, f1, f2, f3, f4, f5⟩ := rc_all hg7; obtain ⟨x0, x1, x2, x3, x4, x5, y0, y1, y2, y3, y4, y5⟩ := rc_all hx7) | (go_at_call 10; refine (hM _).mono ?_; rintro e w8 ⟨rfl, hb8⟩; have hg8 := be_keep hb8 hg7; have hx8 := be_keep hb8 hx7; have B8 : Below w.heap.size w w8 := be_go hb8 B7 (Nat.le_refl _); clear r0 r1 r2 r3 r4 r5 f0 f1 f2 f3 f4 f5 x0 x1 x2 x3 x4 x5 y0 y1 y2 y3 y4 y5; obtain ⟨r0, r1, r2, r3, r4, r5, f0, f1, f2, f3, f4, f5⟩ := rc_all hg8; obtain ⟨x0, x1, x2, x3, x4, x5, y0, y1, y2, y3, y4, y5⟩ := rc_all hx8))
    exact bodyPost_ret (results_ct rfl _ _ w.heap.size 26 _ (0, 0) _ rfl (set6 hg8) Tryz.underlying26 rfl rfl) rfl ⟨rfl, set6_below B8 (Nat.le_refl _)⟩
  · have _t := ordB
    have HX : (((((((w4.setCell ⟨w5.heap.size, 0, none⟩ (.int .i64 m)).setCell ⟨w5.heap.size, 1, none⟩ (.bool false)).setCell ⟨w5.heap.size, 2, none⟩ (.int .u32 A)).setCell ⟨w5.heap.size, 3, none⟩ (.int .i64 N)).setCell ⟨w5.heap.size, 4, none⟩ (.int .i64 0)).setCell ⟨w5.heap.size, 5, none⟩ (.int .i64 0))).heap[w5.heap.size]? = some (ruleCells m false A N 0 0) := set6 hgx0
    have HG : (((((((w4.setCell ⟨w5.heap.size, 0, none⟩ (.int .i64 m)).setCell ⟨w5.heap.size, 1, none⟩ (.bool false)).setCell ⟨w5.heap.size, 2, none⟩ (.int .u32 A)).setCell ⟨w5.heap.size, 3, none⟩ (.int .i64 N)).setCell ⟨w5.heap.size, 4, none⟩ (.int .i64 0)).setCell ⟨w5.heap.size, 5, none⟩ (.int .i64 0))).heap[w.heap.size]? = some (ruleCells 0 false 0 0 0 0) := (set6_far (by omega)).trans (be_keep h54 vg)
    have QW := Aside0.mk (fun (j : Nat) (s : ByteArray) (hj : xs[j]? = some s) => (show (((((((w4.setCell ⟨w5.heap.size, 0, none⟩ (.int .i64 m)).setCell ⟨w5.heap.size, 1, none⟩ (.bool false)).setCell ⟨w5.heap.size, 2, none⟩ (.int .u32 A)).setCell ⟨w5.heap.size, 3, none⟩ (.int .i64 N)).setCell ⟨w5.heap.size, 4, none⟩ (.int .i64 0)).setCell ⟨w5.heap.size, 5, none⟩ (.int .i64 0))).cell? ⟨w.heap.size + 1, j, none⟩ = some (.string s) from (World.cell?_of_block (set6_far (by omega))).trans (be_cell h54 (QV.out j s hj))))
    have B6 : Below w.heap.size w (((((((w4.setCell ⟨w5.heap.size, 0, none⟩ (.int .i64 m)).setCell ⟨w5.heap.size, 1, none⟩ (.bool false)).setCell ⟨w5.heap.size, 2, none⟩ (.int .u32 A)).setCell ⟨w5.heap.size, 3, none⟩ (.int .i64 N)).setCell ⟨w5.heap.size, 4, none⟩ (.int .i64 0)).setCell ⟨w5.heap.size, 5, none⟩ (.int .i64 0))) := set6_below (be_go h54 vb (Nat.le_refl _)) (by omega)
    have gs : w5.heap.size < (((((((w4.setCell ⟨w5.heap.size, 0, none⟩ (.int .i64 m)).setCell ⟨w5.heap.size, 1, none⟩ (.bool false)).setCell ⟨w5.heap.size, 2, none⟩ (.int .u32 A)).setCell ⟨w5.heap.size, 3, none⟩ (.int .i64 N)).setCell ⟨w5.heap.size, 4, none⟩ (.int .i64 0)).setCell ⟨w5.heap.size, 5, none⟩ (.int .i64 0))).heap.size := by have q := blk_lt hgx0; simpa [World.setCell] using q
    have gw : w.heap.size + 1 < w5.heap.size := vs1
    have bs : w.heap.size + 1 < (((((((w4.setCell ⟨w5.heap.size, 0, none⟩ (.int .i64 m)).setCell ⟨w5.heap.size, 1, none⟩ (.bool false)).setCell ⟨w5.heap.size, 2, none⟩ (.int .u32 A)).setCell ⟨w5.heap.size, 3, none⟩ (.int .i64 N)).setCell ⟨w5.heap.size, 4, none⟩ (.int .i64 0)).setCell ⟨w5.heap.size, 5, none⟩ (.int .i64 0))).heap.size := Nat.lt_trans gw gs
    clear ordB hgx0 x0 x1 x2 x3 x4 x5 fx0 fx1 fx2 fx3 fx4 fx5
    clear h54 vg vb hb4 v0 v1 v2 v3 vs1 vs2 vn1 vn2 vn3 vn4 QV j0 j1 j2 j3 js jt jz
    generalize ((((((w4.setCell ⟨w5.heap.size, 0, none⟩ (.int .i64 m)).setCell ⟨w5.heap.size, 1, none⟩ (.bool false)).setCell ⟨w5.heap.size, 2, none⟩ (.int .u32 A)).setCell ⟨w5.heap.size, 3, none⟩ (.int .i64 N)).setCell ⟨w5.heap.size, 4, none⟩ (.int .i64 0)).setCell ⟨w5.heap.size, 5, none⟩ (.int .i64 0)) = w6 at *
    generalize w5.heap.size = gx at *
    obtain ⟨r0, r1, r2, r3, r4, r5, f0, f1, f2, f3, f4, f5⟩ := rc_all HG
    go_wp2_with (first | (go_at_call 33; refine (HL.out _ gx HX QW.out gw).mono ?_; rintro e w7 ⟨rfl, hx7, hb7⟩; have hg7 := (hb7.block w.heap.size (by omega)).trans HG; have B7 : Below w.heap.size w w7 := B6.trans (hb7.mono (by omega)); clear r0 r1 r2 r3 r4 r5 f0 f1 f2 f3 f4 f5; obtain ⟨r0, r1, r2, r3, r4, r5, f0, f1, f2, f3, f4, f5⟩ := rc_all hg7; obtain ⟨x0, x1, x2, x3, x4, x5, y0, y1, y2, y3, y4, y5⟩ := rc_all hx7) | (go_at_call 10; refine (hM _).mono ?_; rintro e w8 ⟨rfl, hb8⟩; have hg8 := be_keep hb8 hg7; have hx8 := be_keep hb8 hx7; have B8 : Below w.heap.size w w8 := be_go hb8 B7 (Nat.le_refl _); clear r0 r1 r2 r3 r4 r5 f0 f1 f2 f3 f4 f5 x0 x1 x2 x3 x4 x5 y0 y1 y2 y3 y4 y5; obtain ⟨r0, r1, r2, r3, r4, r5, f0, f1, f2, f3, f4, f5⟩ := rc_all hg8; obtain ⟨x0, x1, x2, x3, x4, x5, y0, y1, y2, y3, y4, y5⟩ := rc_all hx8))
    exact bodyPost_ret (results_ct rfl _ _ w.heap.size 26 _ (0, 0) _ rfl (set6 hg8) Tryz.underlying26 rfl rfl) rfl ⟨rfl, set6_below B8 (Nat.le_refl _)⟩
end Go.Proofs.YthngpkfckhmiiaaGreatDoor.X
end
section
set_option linter.unusedVariables false
set_option linter.unusedSimpArgs false
namespace Go.Proofs.YthngpkfckhmiiaaGreatDoor.X
open Go.RowKit Go.Proofs.YthngpkfckhmiiaaGreatDoorW.PrintWords Go.Proofs.YthngpkfckhmiiaaGreatDoor.Sl
set_option maxRecDepth 20000 in
set_option maxHeartbeats 4000000 in
theorem parse_ln_true (a0 : ByteArray) (xs : List ByteArray) (w : World) (s0 s1 s2 : ByteArray) (m : Int) (hx0 : xs[0]? = some s0) (hx1 : xs[1]? = some s1) (hx2 : xs[2]? = some s2)
    (hS : ∀ W : World, Below w.heap.size w W → Calls Tryz.prog 30 #[.string a0, .string ⟨#[32]⟩] W fun e w' => e = .returned (.slice (some ⟨W.heap.size, 0, none⟩) xs.length xs.length) ∧ Words W w' xs) (hl : decide ((xs.length : Int) < 3) = false)
    (hn : plist_number.f s0 = some m) (hm : (m == 0) = false) (hs1 : (s1.toList == [112, 101, 114, 109, 105, 116]) = true)  (A N e3 : Int)
    (hA : ∀ W : World, Below w.heap.size w W → Calls Tryz.prog 32 #[.string s2] W fun e w' => e = .returned (.tuple #[.agg #[.int .u32 A, .int .i64 N], .int .i64 e3]) ∧ Below W.heap.size W w') (he : (e3 == 3) = false) (ge le : Int) (hx3 : ¬ (xs.length = 3)) (hL : ∀ (W : World) (gx : Nat), W.heap[gx]? = some (ruleCells m true A N 0 0) → (∀ (j : Nat) (s : ByteArray), xs[j]? = some s → W.cell? ⟨w.heap.size + 1, j, none⟩ = some (.string s)) → w.heap.size + 1 < gx →
      Calls Tryz.prog 33 #[.pointer (some ⟨gx, 0, none⟩), .slice (some ⟨w.heap.size + 1, 3, none⟩) (xs.length - 3) (xs.length - 3)] W fun e w' => LimPost gx m true A N ge le false W e w') :
    Calls Tryz.prog 8 #[.string a0] w fun e w' => e = .returned (.tuple #[.agg #[.int .i64 0, .bool false, .int .u32 0, .int .i64 0, .int .i64 0, .int .i64 0], .int .i64 3]) ∧ Below w.heap.size w w' := by
  have h0 : 0 < (xs.length : Int) := by simp at hl; omega
  have h1 : 1 < (xs.length : Int) := by simp at hl; omega
  have h2 : 0 < xs.length := by omega
  have h3 : 1 < xs.length := by omega
  have h4 : ¬ (xs.length : Int) < 3 := by simp at hl; omega
  have h5 : 2 < (xs.length : Int) := by simp at hl; omega
  have h6 : 2 < xs.length := by omega
  have hc := fun W => plist_number.calls s0 m W hn
  clear hn
  have h3z : (3 : Int) ≤ (xs.length : Int) := by simp at hl; omega
  have HL := Aside0.mk hL
  clear hL
  go_enter Tryz.func8, Tryz.ntmps8
  go_wp2_with (first | (go_at_call 30; refine (hS _ (be_al _ (Below.refl _ _) (Nat.le_refl _))).mono ?_; rintro e w' ⟨rfl, hb, qs, qw⟩; replace qs : w.heap.size + 1 < w'.heap.size := (by simpa using qs); have q0 : w'.cell? ⟨w.heap.size + 1, 0, none⟩ = some (.string s0) := (by simpa using qw 0 s0 hx0); have q1 : w'.cell? ⟨w.heap.size + 1, 1, none⟩ = some (.string s1) := (by simpa using qw 1 s1 hx1); have q2 : w'.cell? ⟨w.heap.size + 1, 2, none⟩ = some (.string s2) := (by simpa using qw 2 s2 hx2); have hg := be_keep hb (al_mine w 0 false 0 0 0 0); have QW := Aside0.mk (show ∀ (j : Nat) (s : ByteArray), xs[j]? = some s → w'.cell? ⟨w.heap.size + 1, j, none⟩ = some (.string s) from fun j s hj => by simpa using qw j s hj); clear qw) | (go_at_call 31; refine (hc _).mono ?_; rintro e w2 ⟨rfl, hb2⟩; have z0 := be_cell hb2 q0; have z1 := be_cell hb2 q1; have z2 := be_cell hb2 q2; have hg2 := be_keep hb2 hg; obtain ⟨r0, r1, r2, r3, r4, r5, f0, f1, f2, f3, f4, f5⟩ := rc_all hg2) | (go_at_call 32; refine (hA _ (be_go hb2 (be_go hb (be_al _ (Below.refl _ _) (Nat.le_refl _)) (Nat.le_refl _)) (Nat.le_refl _))).mono ?_; rintro e w3 ⟨rfl, hb3⟩; have hg3 := be_keep hb3 hg2))
  all_goals have v2 : (w3.alloc (.cells #[.int .u32 A, .int .i64 N] 24)).cell? ⟨w3.heap.size, 0, none⟩ = some (.int .u32 A) := (al_new rfl).trans rfl
  all_goals have v3 : (w3.alloc (.cells #[.int .u32 A, .int .i64 N] 24)).cell? ⟨w3.heap.size, 1, none⟩ = some (.int .i64 N) := (al_new rfl).trans rfl
  all_goals have y0 := be_cell hb3 z0
  all_goals have y1 := be_cell hb3 z1
  all_goals have v0 := (World.cell?_alloc_some w3 _ (.cells #[.int .u32 A, .int .i64 N] 24) (by rw [y0]; rfl)).trans y0
  all_goals have v1 := (World.cell?_alloc_some w3 _ (.cells #[.int .u32 A, .int .i64 N] 24) (by rw [y1]; rfl)).trans y1
  all_goals have vg := al_keep (.cells #[.int .u32 A, .int .i64 N] 24) hg3
  all_goals have vb : Below w.heap.size w (w3.alloc (.cells #[.int .u32 A, .int .i64 N] 24)) := by (repeat with_reducible first | exact Below.refl _ _ | apply Below.drew | refine be_al _ ?_ (Nat.le_refl _) | refine be_set _ _ ?_ (Nat.le_refl _) | refine be_go hb3 ?_ (Nat.le_refl _) | refine be_go hb2 ?_ (Nat.le_refl _) | refine be_go hb ?_ (Nat.le_refl _))
  all_goals have vq : Below w'.heap.size w' (w3.alloc (.cells #[.int .u32 A, .int .i64 N] 24)) := ((hb2.trans (hb3.mono hb2.size)).alloc (Nat.le_trans hb2.size hb3.size) _)
  all_goals have vs1 : w.heap.size + 1 < (w3.alloc (.cells #[.int .u32 A, .int .i64 N] 24)).heap.size := Nat.lt_of_lt_of_le qs vq.size
  all_goals have vs2 : w3.heap.size < (w3.alloc (.cells #[.int .u32 A, .int .i64 N] 24)).heap.size := by simp
  all_goals have QV := Aside0.mk (fun j s hj => be_cell vq (QW.out j s hj))
  all_goals clear hb hb2 hb3 z0 z1 z2 y0 y1 hg hg2 hg3 q0 q1 q2 r0 r1 r2 r3 r4 r5 f0 f1 f2 f3 f4 f5 QW vq
  all_goals generalize w3.alloc (.cells #[.int .u32 A, .int .i64 N] 24) = w5 at *
  all_goals have vn1 : w.heap.size + 1 ≠ w5.heap.size := Nat.ne_of_lt vs1
  all_goals have vn2 : w5.heap.size ≠ w.heap.size + 1 := vn1.symm
  all_goals have vn3 : w3.heap.size ≠ w5.heap.size := Nat.ne_of_lt vs2
  all_goals have vn4 : w5.heap.size ≠ w3.heap.size := vn3.symm
  all_goals go_region_held3 (fun W => W.cell? ⟨w.heap.size + 1, 0, none⟩ = some (.string s0) ∧ W.cell? ⟨w.heap.size + 1, 1, none⟩ = some (.string s1) ∧ W.cell? ⟨w3.heap.size, 0, none⟩ = some (.int .u32 A) ∧ W.cell? ⟨w3.heap.size, 1, none⟩ = some (.int .i64 N)) (go_keep) (first | (go_at_call 31; refine (hc _).mono ?_; rintro e w4 ⟨rfl, hb4⟩; (first | (have ordA : True := trivial; have h54 : Below w5.heap.size w5 w4 := ((Below.refl _ _).drew).trans hb4) | (have ordB : True := trivial; have h54 : Below w5.heap.size w5 w4 := (((Below.refl _ _).drew).alloc (Nat.le_refl _) _).trans (hb4.mono (by simp)); have hgx0 := (hb4.block w5.heap.size (by simp)).trans (al_mine w5.drew 0 false 0 0 0 0); obtain ⟨x0, x1, x2, x3, x4, x5, fx0, fx1, fx2, fx3, fx4, fx5⟩ := rc_all hgx0)); have j0 := be_cell h54 v0; have j1 := be_cell h54 v1; have j2 := be_cell h54 v2; have j3 := be_cell h54 v3; have js := Nat.lt_of_lt_of_le vs1 h54.size; have jt := Nat.lt_of_lt_of_le vs2 h54.size; have jz := h54.size))
  · have _t := ordA
    have HX : (w4.alloc (.cells #[.int .i64 m, .bool true, .int .u32 A, .int .i64 N, .int .i64 0, .int .i64 0] 26)).heap[w4.heap.size]? = some (ruleCells m true A N 0 0) := al_mine w4 m true A N 0 0
    have HG : (w4.alloc (.cells #[.int .i64 m, .bool true, .int .u32 A, .int .i64 N, .int .i64 0, .int .i64 0] 26)).heap[w.heap.size]? = some (ruleCells 0 false 0 0 0 0) := al_keep _ (be_keep h54 vg)
    have QW := Aside0.mk (fun (j : Nat) (s : ByteArray) (hj : xs[j]? = some s) => (show (w4.alloc (.cells #[.int .i64 m, .bool true, .int .u32 A, .int .i64 N, .int .i64 0, .int .i64 0] 26)).cell? ⟨w.heap.size + 1, j, none⟩ = some (.string s) from (World.cell?_alloc_lt w4 _ ⟨w.heap.size + 1, j, none⟩ js).trans (be_cell h54 (QV.out j s hj))))
    have B6 : Below w.heap.size w (w4.alloc (.cells #[.int .i64 m, .bool true, .int .u32 A, .int .i64 N, .int .i64 0, .int .i64 0] 26)) := be_al _ (be_go h54 vb (Nat.le_refl _)) (Nat.le_refl _)
    have gs : w4.heap.size < (w4.alloc (.cells #[.int .i64 m, .bool true, .int .u32 A, .int .i64 N, .int .i64 0, .int .i64 0] 26)).heap.size := by simp
    have gw : w.heap.size + 1 < w4.heap.size := js
    have bs : w.heap.size + 1 < (w4.alloc (.cells #[.int .i64 m, .bool true, .int .u32 A, .int .i64 N, .int .i64 0, .int .i64 0] 26)).heap.size := Nat.lt_trans gw gs
    clear ordA
    clear h54 vg vb hb4 v0 v1 v2 v3 vs1 vs2 vn1 vn2 vn3 vn4 QV j0 j1 j2 j3 js jt jz
    generalize w4.alloc (.cells #[.int .i64 m, .bool true, .int .u32 A, .int .i64 N, .int .i64 0, .int .i64 0] 26) = w6 at *
    generalize w4.heap.size = gx at *
    obtain ⟨r0, r1, r2, r3, r4, r5, f0, f1, f2, f3, f4, f5⟩ := rc_all HG
    go_wp2_with (go_at_call 33; refine (HL.out _ gx HX QW.out gw).mono ?_; rintro e w7 ⟨rfl, hx7, hb7⟩; have hg7 := (hb7.block w.heap.size (by omega)).trans HG; have B7 : Below w.heap.size w w7 := B6.trans (hb7.mono (by omega)); clear r0 r1 r2 r3 r4 r5 f0 f1 f2 f3 f4 f5; obtain ⟨r0, r1, r2, r3, r4, r5, f0, f1, f2, f3, f4, f5⟩ := rc_all hg7; obtain ⟨x0, x1, x2, x3, x4, x5, y0, y1, y2, y3, y4, y5⟩ := rc_all hx7)
    exact bodyPost_ret (results_ct rfl _ _ w.heap.size 26 _ (0, 0) _ rfl (set6 hg7) Tryz.underlying26 rfl rfl) rfl ⟨rfl, set6_below B7 (Nat.le_refl _)⟩
  · have _t := ordB
    have HX : (((((((w4.setCell ⟨w5.heap.size, 0, none⟩ (.int .i64 m)).setCell ⟨w5.heap.size, 1, none⟩ (.bool true)).setCell ⟨w5.heap.size, 2, none⟩ (.int .u32 A)).setCell ⟨w5.heap.size, 3, none⟩ (.int .i64 N)).setCell ⟨w5.heap.size, 4, none⟩ (.int .i64 0)).setCell ⟨w5.heap.size, 5, none⟩ (.int .i64 0))).heap[w5.heap.size]? = some (ruleCells m true A N 0 0) := set6 hgx0
    have HG : (((((((w4.setCell ⟨w5.heap.size, 0, none⟩ (.int .i64 m)).setCell ⟨w5.heap.size, 1, none⟩ (.bool true)).setCell ⟨w5.heap.size, 2, none⟩ (.int .u32 A)).setCell ⟨w5.heap.size, 3, none⟩ (.int .i64 N)).setCell ⟨w5.heap.size, 4, none⟩ (.int .i64 0)).setCell ⟨w5.heap.size, 5, none⟩ (.int .i64 0))).heap[w.heap.size]? = some (ruleCells 0 false 0 0 0 0) := (set6_far (by omega)).trans (be_keep h54 vg)
    have QW := Aside0.mk (fun (j : Nat) (s : ByteArray) (hj : xs[j]? = some s) => (show (((((((w4.setCell ⟨w5.heap.size, 0, none⟩ (.int .i64 m)).setCell ⟨w5.heap.size, 1, none⟩ (.bool true)).setCell ⟨w5.heap.size, 2, none⟩ (.int .u32 A)).setCell ⟨w5.heap.size, 3, none⟩ (.int .i64 N)).setCell ⟨w5.heap.size, 4, none⟩ (.int .i64 0)).setCell ⟨w5.heap.size, 5, none⟩ (.int .i64 0))).cell? ⟨w.heap.size + 1, j, none⟩ = some (.string s) from (World.cell?_of_block (set6_far (by omega))).trans (be_cell h54 (QV.out j s hj))))
    have B6 : Below w.heap.size w (((((((w4.setCell ⟨w5.heap.size, 0, none⟩ (.int .i64 m)).setCell ⟨w5.heap.size, 1, none⟩ (.bool true)).setCell ⟨w5.heap.size, 2, none⟩ (.int .u32 A)).setCell ⟨w5.heap.size, 3, none⟩ (.int .i64 N)).setCell ⟨w5.heap.size, 4, none⟩ (.int .i64 0)).setCell ⟨w5.heap.size, 5, none⟩ (.int .i64 0))) := set6_below (be_go h54 vb (Nat.le_refl _)) (by omega)
    have gs : w5.heap.size < (((((((w4.setCell ⟨w5.heap.size, 0, none⟩ (.int .i64 m)).setCell ⟨w5.heap.size, 1, none⟩ (.bool true)).setCell ⟨w5.heap.size, 2, none⟩ (.int .u32 A)).setCell ⟨w5.heap.size, 3, none⟩ (.int .i64 N)).setCell ⟨w5.heap.size, 4, none⟩ (.int .i64 0)).setCell ⟨w5.heap.size, 5, none⟩ (.int .i64 0))).heap.size := by have q := blk_lt hgx0; simpa [World.setCell] using q
    have gw : w.heap.size + 1 < w5.heap.size := vs1
    have bs : w.heap.size + 1 < (((((((w4.setCell ⟨w5.heap.size, 0, none⟩ (.int .i64 m)).setCell ⟨w5.heap.size, 1, none⟩ (.bool true)).setCell ⟨w5.heap.size, 2, none⟩ (.int .u32 A)).setCell ⟨w5.heap.size, 3, none⟩ (.int .i64 N)).setCell ⟨w5.heap.size, 4, none⟩ (.int .i64 0)).setCell ⟨w5.heap.size, 5, none⟩ (.int .i64 0))).heap.size := Nat.lt_trans gw gs
    clear ordB hgx0 x0 x1 x2 x3 x4 x5 fx0 fx1 fx2 fx3 fx4 fx5
    clear h54 vg vb hb4 v0 v1 v2 v3 vs1 vs2 vn1 vn2 vn3 vn4 QV j0 j1 j2 j3 js jt jz
    generalize ((((((w4.setCell ⟨w5.heap.size, 0, none⟩ (.int .i64 m)).setCell ⟨w5.heap.size, 1, none⟩ (.bool true)).setCell ⟨w5.heap.size, 2, none⟩ (.int .u32 A)).setCell ⟨w5.heap.size, 3, none⟩ (.int .i64 N)).setCell ⟨w5.heap.size, 4, none⟩ (.int .i64 0)).setCell ⟨w5.heap.size, 5, none⟩ (.int .i64 0)) = w6 at *
    generalize w5.heap.size = gx at *
    obtain ⟨r0, r1, r2, r3, r4, r5, f0, f1, f2, f3, f4, f5⟩ := rc_all HG
    go_wp2_with (go_at_call 33; refine (HL.out _ gx HX QW.out gw).mono ?_; rintro e w7 ⟨rfl, hx7, hb7⟩; have hg7 := (hb7.block w.heap.size (by omega)).trans HG; have B7 : Below w.heap.size w w7 := B6.trans (hb7.mono (by omega)); clear r0 r1 r2 r3 r4 r5 f0 f1 f2 f3 f4 f5; obtain ⟨r0, r1, r2, r3, r4, r5, f0, f1, f2, f3, f4, f5⟩ := rc_all hg7; obtain ⟨x0, x1, x2, x3, x4, x5, y0, y1, y2, y3, y4, y5⟩ := rc_all hx7)
    exact bodyPost_ret (results_ct rfl _ _ w.heap.size 26 _ (0, 0) _ rfl (set6 hg7) Tryz.underlying26 rfl rfl) rfl ⟨rfl, set6_below B7 (Nat.le_refl _)⟩
set_option maxRecDepth 20000 in
set_option maxHeartbeats 4000000 in
theorem parse_ln_false (a0 : ByteArray) (xs : List ByteArray) (w : World) (s0 s1 s2 : ByteArray) (m : Int) (hx0 : xs[0]? = some s0) (hx1 : xs[1]? = some s1) (hx2 : xs[2]? = some s2)
    (hS : ∀ W : World, Below w.heap.size w W → Calls Tryz.prog 30 #[.string a0, .string ⟨#[32]⟩] W fun e w' => e = .returned (.slice (some ⟨W.heap.size, 0, none⟩) xs.length xs.length) ∧ Words W w' xs) (hl : decide ((xs.length : Int) < 3) = false)
    (hn : plist_number.f s0 = some m) (hm : (m == 0) = false) (hs1 : (s1.toList == [112, 101, 114, 109, 105, 116]) = false) (hs3 : (s1.toList == [100, 101, 110, 121]) = true) (A N e3 : Int)
    (hA : ∀ W : World, Below w.heap.size w W → Calls Tryz.prog 32 #[.string s2] W fun e w' => e = .returned (.tuple #[.agg #[.int .u32 A, .int .i64 N], .int .i64 e3]) ∧ Below W.heap.size W w') (he : (e3 == 3) = false) (ge le : Int) (hx3 : ¬ (xs.length = 3)) (hL : ∀ (W : World) (gx : Nat), W.heap[gx]? = some (ruleCells m false A N 0 0) → (∀ (j : Nat) (s : ByteArray), xs[j]? = some s → W.cell? ⟨w.heap.size + 1, j, none⟩ = some (.string s)) → w.heap.size + 1 < gx →
      Calls Tryz.prog 33 #[.pointer (some ⟨gx, 0, none⟩), .slice (some ⟨w.heap.size + 1, 3, none⟩) (xs.length - 3) (xs.length - 3)] W fun e w' => LimPost gx m false A N ge le false W e w') :
    Calls Tryz.prog 8 #[.string a0] w fun e w' => e = .returned (.tuple #[.agg #[.int .i64 0, .bool false, .int .u32 0, .int .i64 0, .int .i64 0, .int .i64 0], .int .i64 3]) ∧ Below w.heap.size w w' := by
  have h0 : 0 < (xs.length : Int) := by simp at hl; omega
  have h1 : 1 < (xs.length : Int) := by simp at hl; omega
  have h2 : 0 < xs.length := by omega
  have h3 : 1 < xs.length := by omega
  have h4 : ¬ (xs.length : Int) < 3 := by simp at hl; omega
  have h5 : 2 < (xs.length : Int) := by simp at hl; omega
  have h6 : 2 < xs.length := by omega
  have hc := fun W => plist_number.calls s0 m W hn
  clear hn
  have h3z : (3 : Int) ≤ (xs.length : Int) := by simp at hl; omega
  have HL := Aside0.mk hL
  clear hL
  go_enter Tryz.func8, Tryz.ntmps8
  go_wp2_with (first | (go_at_call 30; refine (hS _ (be_al _ (Below.refl _ _) (Nat.le_refl _))).mono ?_; rintro e w' ⟨rfl, hb, qs, qw⟩; replace qs : w.heap.size + 1 < w'.heap.size := (by simpa using qs); have q0 : w'.cell? ⟨w.heap.size + 1, 0, none⟩ = some (.string s0) := (by simpa using qw 0 s0 hx0); have q1 : w'.cell? ⟨w.heap.size + 1, 1, none⟩ = some (.string s1) := (by simpa using qw 1 s1 hx1); have q2 : w'.cell? ⟨w.heap.size + 1, 2, none⟩ = some (.string s2) := (by simpa using qw 2 s2 hx2); have hg := be_keep hb (al_mine w 0 false 0 0 0 0); have QW := Aside0.mk (show ∀ (j : Nat) (s : ByteArray), xs[j]? = some s → w'.cell? ⟨w.heap.size + 1, j, none⟩ = some (.string s) from fun j s hj => by simpa using qw j s hj); clear qw) | (go_at_call 31; refine (hc _).mono ?_; rintro e w2 ⟨rfl, hb2⟩; have z0 := be_cell hb2 q0; have z1 := be_cell hb2 q1; have z2 := be_cell hb2 q2; have hg2 := be_keep hb2 hg; obtain ⟨r0, r1, r2, r3, r4, r5, f0, f1, f2, f3, f4, f5⟩ := rc_all hg2) | (go_at_call 32; refine (hA _ (be_go hb2 (be_go hb (be_al _ (Below.refl _ _) (Nat.le_refl _)) (Nat.le_refl _)) (Nat.le_refl _))).mono ?_; rintro e w3 ⟨rfl, hb3⟩; have hg3 := be_keep hb3 hg2))
  all_goals have v2 : (w3.alloc (.cells #[.int .u32 A, .int .i64 N] 24)).cell? ⟨w3.heap.size, 0, none⟩ = some (.int .u32 A) := (al_new rfl).trans rfl
  all_goals have v3 : (w3.alloc (.cells #[.int .u32 A, .int .i64 N] 24)).cell? ⟨w3.heap.size, 1, none⟩ = some (.int .i64 N) := (al_new rfl).trans rfl
  all_goals have y0 := be_cell hb3 z0
  all_goals have y1 := be_cell hb3 z1
  all_goals have v0 := (World.cell?_alloc_some w3 _ (.cells #[.int .u32 A, .int .i64 N] 24) (by rw [y0]; rfl)).trans y0
  all_goals have v1 := (World.cell?_alloc_some w3 _ (.cells #[.int .u32 A, .int .i64 N] 24) (by rw [y1]; rfl)).trans y1
  all_goals have vg := al_keep (.cells #[.int .u32 A, .int .i64 N] 24) hg3
  all_goals have vb : Below w.heap.size w (w3.alloc (.cells #[.int .u32 A, .int .i64 N] 24)) := by (repeat with_reducible first | exact Below.refl _ _ | apply Below.drew | refine be_al _ ?_ (Nat.le_refl _) | refine be_set _ _ ?_ (Nat.le_refl _) | refine be_go hb3 ?_ (Nat.le_refl _) | refine be_go hb2 ?_ (Nat.le_refl _) | refine be_go hb ?_ (Nat.le_refl _))
  all_goals have vq : Below w'.heap.size w' (w3.alloc (.cells #[.int .u32 A, .int .i64 N] 24)) := ((hb2.trans (hb3.mono hb2.size)).alloc (Nat.le_trans hb2.size hb3.size) _)
  all_goals have vs1 : w.heap.size + 1 < (w3.alloc (.cells #[.int .u32 A, .int .i64 N] 24)).heap.size := Nat.lt_of_lt_of_le qs vq.size
  all_goals have vs2 : w3.heap.size < (w3.alloc (.cells #[.int .u32 A, .int .i64 N] 24)).heap.size := by simp
  all_goals have QV := Aside0.mk (fun j s hj => be_cell vq (QW.out j s hj))
  all_goals clear hb hb2 hb3 z0 z1 z2 y0 y1 hg hg2 hg3 q0 q1 q2 r0 r1 r2 r3 r4 r5 f0 f1 f2 f3 f4 f5 QW vq
  all_goals generalize w3.alloc (.cells #[.int .u32 A, .int .i64 N] 24) = w5 at *
  all_goals have vn1 : w.heap.size + 1 ≠ w5.heap.size := Nat.ne_of_lt vs1
  all_goals have vn2 : w5.heap.size ≠ w.heap.size + 1 := vn1.symm
  all_goals have vn3 : w3.heap.size ≠ w5.heap.size := Nat.ne_of_lt vs2
  all_goals have vn4 : w5.heap.size ≠ w3.heap.size := vn3.symm
  all_goals go_region_held3 (fun W => W.cell? ⟨w.heap.size + 1, 0, none⟩ = some (.string s0) ∧ W.cell? ⟨w.heap.size + 1, 1, none⟩ = some (.string s1) ∧ W.cell? ⟨w3.heap.size, 0, none⟩ = some (.int .u32 A) ∧ W.cell? ⟨w3.heap.size, 1, none⟩ = some (.int .i64 N)) (go_keep) (first | (go_at_call 31; refine (hc _).mono ?_; rintro e w4 ⟨rfl, hb4⟩; (first | (have ordA : True := trivial; have h54 : Below w5.heap.size w5 w4 := ((Below.refl _ _).drew).trans hb4) | (have ordB : True := trivial; have h54 : Below w5.heap.size w5 w4 := (((Below.refl _ _).drew).alloc (Nat.le_refl _) _).trans (hb4.mono (by simp)); have hgx0 := (hb4.block w5.heap.size (by simp)).trans (al_mine w5.drew 0 false 0 0 0 0); obtain ⟨x0, x1, x2, x3, x4, x5, fx0, fx1, fx2, fx3, fx4, fx5⟩ := rc_all hgx0)); have j0 := be_cell h54 v0; have j1 := be_cell h54 v1; have j2 := be_cell h54 v2; have j3 := be_cell h54 v3; have js := Nat.lt_of_lt_of_le vs1 h54.size; have jt := Nat.lt_of_lt_of_le vs2 h54.size; have jz := h54.size))
  · have _t := ordA
    have HX : (w4.alloc (.cells #[.int .i64 m, .bool false, .int .u32 A, .int .i64 N, .int .i64 0, .int .i64 0] 26)).heap[w4.heap.size]? = some (ruleCells m false A N 0 0) := al_mine w4 m false A N 0 0
    have HG : (w4.alloc (.cells #[.int .i64 m, .bool false, .int .u32 A, .int .i64 N, .int .i64 0, .int .i64 0] 26)).heap[w.heap.size]? = some (ruleCells 0 false 0 0 0 0) := al_keep _ (be_keep h54 vg)
    have QW := Aside0.mk (fun (j : Nat) (s : ByteArray) (hj : xs[j]? = some s) => (show (w4.alloc (.cells #[.int .i64 m, .bool false, .int .u32 A, .int .i64 N, .int .i64 0, .int .i64 0] 26)).cell? ⟨w.heap.size + 1, j, none⟩ = some (.string s) from (World.cell?_alloc_lt w4 _ ⟨w.heap.size + 1, j, none⟩ js).trans (be_cell h54 (QV.out j s hj))))
    have B6 : Below w.heap.size w (w4.alloc (.cells #[.int .i64 m, .bool false, .int .u32 A, .int .i64 N, .int .i64 0, .int .i64 0] 26)) := be_al _ (be_go h54 vb (Nat.le_refl _)) (Nat.le_refl _)
    have gs : w4.heap.size < (w4.alloc (.cells #[.int .i64 m, .bool false, .int .u32 A, .int .i64 N, .int .i64 0, .int .i64 0] 26)).heap.size := by simp
    have gw : w.heap.size + 1 < w4.heap.size := js
    have bs : w.heap.size + 1 < (w4.alloc (.cells #[.int .i64 m, .bool false, .int .u32 A, .int .i64 N, .int .i64 0, .int .i64 0] 26)).heap.size := Nat.lt_trans gw gs
    clear ordA
    clear h54 vg vb hb4 v0 v1 v2 v3 vs1 vs2 vn1 vn2 vn3 vn4 QV j0 j1 j2 j3 js jt jz
    generalize w4.alloc (.cells #[.int .i64 m, .bool false, .int .u32 A, .int .i64 N, .int .i64 0, .int .i64 0] 26) = w6 at *
    generalize w4.heap.size = gx at *
    obtain ⟨r0, r1, r2, r3, r4, r5, f0, f1, f2, f3, f4, f5⟩ := rc_all HG
    go_wp2_with (go_at_call 33; refine (HL.out _ gx HX QW.out gw).mono ?_; rintro e w7 ⟨rfl, hx7, hb7⟩; have hg7 := (hb7.block w.heap.size (by omega)).trans HG; have B7 : Below w.heap.size w w7 := B6.trans (hb7.mono (by omega)); clear r0 r1 r2 r3 r4 r5 f0 f1 f2 f3 f4 f5; obtain ⟨r0, r1, r2, r3, r4, r5, f0, f1, f2, f3, f4, f5⟩ := rc_all hg7; obtain ⟨x0, x1, x2, x3, x4, x5, y0, y1, y2, y3, y4, y5⟩ := rc_all hx7)
    exact bodyPost_ret (results_ct rfl _ _ w.heap.size 26 _ (0, 0) _ rfl (set6 hg7) Tryz.underlying26 rfl rfl) rfl ⟨rfl, set6_below B7 (Nat.le_refl _)⟩
  · have _t := ordB
    have HX : (((((((w4.setCell ⟨w5.heap.size, 0, none⟩ (.int .i64 m)).setCell ⟨w5.heap.size, 1, none⟩ (.bool false)).setCell ⟨w5.heap.size, 2, none⟩ (.int .u32 A)).setCell ⟨w5.heap.size, 3, none⟩ (.int .i64 N)).setCell ⟨w5.heap.size, 4, none⟩ (.int .i64 0)).setCell ⟨w5.heap.size, 5, none⟩ (.int .i64 0))).heap[w5.heap.size]? = some (ruleCells m false A N 0 0) := set6 hgx0
    have HG : (((((((w4.setCell ⟨w5.heap.size, 0, none⟩ (.int .i64 m)).setCell ⟨w5.heap.size, 1, none⟩ (.bool false)).setCell ⟨w5.heap.size, 2, none⟩ (.int .u32 A)).setCell ⟨w5.heap.size, 3, none⟩ (.int .i64 N)).setCell ⟨w5.heap.size, 4, none⟩ (.int .i64 0)).setCell ⟨w5.heap.size, 5, none⟩ (.int .i64 0))).heap[w.heap.size]? = some (ruleCells 0 false 0 0 0 0) := (set6_far (by omega)).trans (be_keep h54 vg)
    have QW := Aside0.mk (fun (j : Nat) (s : ByteArray) (hj : xs[j]? = some s) => (show (((((((w4.setCell ⟨w5.heap.size, 0, none⟩ (.int .i64 m)).setCell ⟨w5.heap.size, 1, none⟩ (.bool false)).setCell ⟨w5.heap.size, 2, none⟩ (.int .u32 A)).setCell ⟨w5.heap.size, 3, none⟩ (.int .i64 N)).setCell ⟨w5.heap.size, 4, none⟩ (.int .i64 0)).setCell ⟨w5.heap.size, 5, none⟩ (.int .i64 0))).cell? ⟨w.heap.size + 1, j, none⟩ = some (.string s) from (World.cell?_of_block (set6_far (by omega))).trans (be_cell h54 (QV.out j s hj))))
    have B6 : Below w.heap.size w (((((((w4.setCell ⟨w5.heap.size, 0, none⟩ (.int .i64 m)).setCell ⟨w5.heap.size, 1, none⟩ (.bool false)).setCell ⟨w5.heap.size, 2, none⟩ (.int .u32 A)).setCell ⟨w5.heap.size, 3, none⟩ (.int .i64 N)).setCell ⟨w5.heap.size, 4, none⟩ (.int .i64 0)).setCell ⟨w5.heap.size, 5, none⟩ (.int .i64 0))) := set6_below (be_go h54 vb (Nat.le_refl _)) (by omega)
    have gs : w5.heap.size < (((((((w4.setCell ⟨w5.heap.size, 0, none⟩ (.int .i64 m)).setCell ⟨w5.heap.size, 1, none⟩ (.bool false)).setCell ⟨w5.heap.size, 2, none⟩ (.int .u32 A)).setCell ⟨w5.heap.size, 3, none⟩ (.int .i64 N)).setCell ⟨w5.heap.size, 4, none⟩ (.int .i64 0)).setCell ⟨w5.heap.size, 5, none⟩ (.int .i64 0))).heap.size := by have q := blk_lt hgx0; simpa [World.setCell] using q
    have gw : w.heap.size + 1 < w5.heap.size := vs1
    have bs : w.heap.size + 1 < (((((((w4.setCell ⟨w5.heap.size, 0, none⟩ (.int .i64 m)).setCell ⟨w5.heap.size, 1, none⟩ (.bool false)).setCell ⟨w5.heap.size, 2, none⟩ (.int .u32 A)).setCell ⟨w5.heap.size, 3, none⟩ (.int .i64 N)).setCell ⟨w5.heap.size, 4, none⟩ (.int .i64 0)).setCell ⟨w5.heap.size, 5, none⟩ (.int .i64 0))).heap.size := Nat.lt_trans gw gs
    clear ordB hgx0 x0 x1 x2 x3 x4 x5 fx0 fx1 fx2 fx3 fx4 fx5
    clear h54 vg vb hb4 v0 v1 v2 v3 vs1 vs2 vn1 vn2 vn3 vn4 QV j0 j1 j2 j3 js jt jz
    generalize ((((((w4.setCell ⟨w5.heap.size, 0, none⟩ (.int .i64 m)).setCell ⟨w5.heap.size, 1, none⟩ (.bool false)).setCell ⟨w5.heap.size, 2, none⟩ (.int .u32 A)).setCell ⟨w5.heap.size, 3, none⟩ (.int .i64 N)).setCell ⟨w5.heap.size, 4, none⟩ (.int .i64 0)).setCell ⟨w5.heap.size, 5, none⟩ (.int .i64 0)) = w6 at *
    generalize w5.heap.size = gx at *
    obtain ⟨r0, r1, r2, r3, r4, r5, f0, f1, f2, f3, f4, f5⟩ := rc_all HG
    go_wp2_with (go_at_call 33; refine (HL.out _ gx HX QW.out gw).mono ?_; rintro e w7 ⟨rfl, hx7, hb7⟩; have hg7 := (hb7.block w.heap.size (by omega)).trans HG; have B7 : Below w.heap.size w w7 := B6.trans (hb7.mono (by omega)); clear r0 r1 r2 r3 r4 r5 f0 f1 f2 f3 f4 f5; obtain ⟨r0, r1, r2, r3, r4, r5, f0, f1, f2, f3, f4, f5⟩ := rc_all hg7; obtain ⟨x0, x1, x2, x3, x4, x5, y0, y1, y2, y3, y4, y5⟩ := rc_all hx7)
    exact bodyPost_ret (results_ct rfl _ _ w.heap.size 26 _ (0, 0) _ rfl (set6 hg7) Tryz.underlying26 rfl rfl) rfl ⟨rfl, set6_below B7 (Nat.le_refl _)⟩
set_option maxRecDepth 20000 in
set_option maxHeartbeats 4000000 in
theorem parse_en_true (a0 : ByteArray) (xs : List ByteArray) (w : World) (s0 s1 s2 : ByteArray) (m : Int) (hx0 : xs[0]? = some s0) (hx1 : xs[1]? = some s1) (hx2 : xs[2]? = some s2)
    (hS : ∀ W : World, Below w.heap.size w W → Calls Tryz.prog 30 #[.string a0, .string ⟨#[32]⟩] W fun e w' => e = .returned (.slice (some ⟨W.heap.size, 0, none⟩) xs.length xs.length) ∧ Words W w' xs) (hl : decide ((xs.length : Int) < 3) = false)
    (hn : plist_number.f s0 = some m) (hm : (m == 0) = false) (hs1 : (s1.toList == [112, 101, 114, 109, 105, 116]) = true)  (A N e3 : Int)
    (hA : ∀ W : World, Below w.heap.size w W → Calls Tryz.prog 32 #[.string s2] W fun e w' => e = .returned (.tuple #[.agg #[.int .u32 A, .int .i64 N], .int .i64 e3]) ∧ Below W.heap.size W w') (he : (e3 == 3) = false) (he0 : (e3 != 0) = true) (ge le : Int) (hx3 : ¬ (xs.length = 3)) (hL : ∀ (W : World) (gx : Nat), W.heap[gx]? = some (ruleCells m true A N 0 0) → (∀ (j : Nat) (s : ByteArray), xs[j]? = some s → W.cell? ⟨w.heap.size + 1, j, none⟩ = some (.string s)) → w.heap.size + 1 < gx →
      Calls Tryz.prog 33 #[.pointer (some ⟨gx, 0, none⟩), .slice (some ⟨w.heap.size + 1, 3, none⟩) (xs.length - 3) (xs.length - 3)] W fun e w' => LimPost gx m true A N ge le true W e w') :
    Calls Tryz.prog 8 #[.string a0] w fun e w' => e = .returned (.tuple #[.agg #[.int .i64 0, .bool false, .int .u32 0, .int .i64 0, .int .i64 0, .int .i64 0], .int .i64 1]) ∧ Below w.heap.size w w' := by
  have h0 : 0 < (xs.length : Int) := by simp at hl; omega
  have h1 : 1 < (xs.length : Int) := by simp at hl; omega
  have h2 : 0 < xs.length := by omega
  have h3 : 1 < xs.length := by omega
  have h4 : ¬ (xs.length : Int) < 3 := by simp at hl; omega
  have h5 : 2 < (xs.length : Int) := by simp at hl; omega
  have h6 : 2 < xs.length := by omega
  have hc := fun W => plist_number.calls s0 m W hn
  clear hn
  have h3z : (3 : Int) ≤ (xs.length : Int) := by simp at hl; omega
  have HL := Aside0.mk hL
  clear hL
  go_enter Tryz.func8, Tryz.ntmps8
  go_wp2_with (first | (go_at_call 30; refine (hS _ (be_al _ (Below.refl _ _) (Nat.le_refl _))).mono ?_; rintro e w' ⟨rfl, hb, qs, qw⟩; replace qs : w.heap.size + 1 < w'.heap.size := (by simpa using qs); have q0 : w'.cell? ⟨w.heap.size + 1, 0, none⟩ = some (.string s0) := (by simpa using qw 0 s0 hx0); have q1 : w'.cell? ⟨w.heap.size + 1, 1, none⟩ = some (.string s1) := (by simpa using qw 1 s1 hx1); have q2 : w'.cell? ⟨w.heap.size + 1, 2, none⟩ = some (.string s2) := (by simpa using qw 2 s2 hx2); have hg := be_keep hb (al_mine w 0 false 0 0 0 0); have QW := Aside0.mk (show ∀ (j : Nat) (s : ByteArray), xs[j]? = some s → w'.cell? ⟨w.heap.size + 1, j, none⟩ = some (.string s) from fun j s hj => by simpa using qw j s hj); clear qw) | (go_at_call 31; refine (hc _).mono ?_; rintro e w2 ⟨rfl, hb2⟩; have z0 := be_cell hb2 q0; have z1 := be_cell hb2 q1; have z2 := be_cell hb2 q2; have hg2 := be_keep hb2 hg; obtain ⟨r0, r1, r2, r3, r4, r5, f0, f1, f2, f3, f4, f5⟩ := rc_all hg2) | (go_at_call 32; refine (hA _ (be_go hb2 (be_go hb (be_al _ (Below.refl _ _) (Nat.le_refl _)) (Nat.le_refl _)) (Nat.le_refl _))).mono ?_; rintro e w3 ⟨rfl, hb3⟩; have hg3 := be_keep hb3 hg2))
  all_goals have v2 : (w3.alloc (.cells #[.int .u32 A, .int .i64 N] 24)).cell? ⟨w3.heap.size, 0, none⟩ = some (.int .u32 A) := (al_new rfl).trans rfl
  all_goals have v3 : (w3.alloc (.cells #[.int .u32 A, .int .i64 N] 24)).cell? ⟨w3.heap.size, 1, none⟩ = some (.int .i64 N) := (al_new rfl).trans rfl
  all_goals have y0 := be_cell hb3 z0
  all_goals have y1 := be_cell hb3 z1
  all_goals have v0 := (World.cell?_alloc_some w3 _ (.cells #[.int .u32 A, .int .i64 N] 24) (by rw [y0]; rfl)).trans y0
  all_goals have v1 := (World.cell?_alloc_some w3 _ (.cells #[.int .u32 A, .int .i64 N] 24) (by rw [y1]; rfl)).trans y1
  all_goals have vg := al_keep (.cells #[.int .u32 A, .int .i64 N] 24) hg3
  all_goals have vb : Below w.heap.size w (w3.alloc (.cells #[.int .u32 A, .int .i64 N] 24)) := by (repeat with_reducible first | exact Below.refl _ _ | apply Below.drew | refine be_al _ ?_ (Nat.le_refl _) | refine be_set _ _ ?_ (Nat.le_refl _) | refine be_go hb3 ?_ (Nat.le_refl _) | refine be_go hb2 ?_ (Nat.le_refl _) | refine be_go hb ?_ (Nat.le_refl _))
  all_goals have vq : Below w'.heap.size w' (w3.alloc (.cells #[.int .u32 A, .int .i64 N] 24)) := ((hb2.trans (hb3.mono hb2.size)).alloc (Nat.le_trans hb2.size hb3.size) _)
  all_goals have vs1 : w.heap.size + 1 < (w3.alloc (.cells #[.int .u32 A, .int .i64 N] 24)).heap.size := Nat.lt_of_lt_of_le qs vq.size
  all_goals have vs2 : w3.heap.size < (w3.alloc (.cells #[.int .u32 A, .int .i64 N] 24)).heap.size := by simp
  all_goals have QV := Aside0.mk (fun j s hj => be_cell vq (QW.out j s hj))
  all_goals clear hb hb2 hb3 z0 z1 z2 y0 y1 hg hg2 hg3 q0 q1 q2 r0 r1 r2 r3 r4 r5 f0 f1 f2 f3 f4 f5 QW vq
  all_goals generalize w3.alloc (.cells #[.int .u32 A, .int .i64 N] 24) = w5 at *
  all_goals have vn1 : w.heap.size + 1 ≠ w5.heap.size := Nat.ne_of_lt vs1
  all_goals have vn2 : w5.heap.size ≠ w.heap.size + 1 := vn1.symm
  all_goals have vn3 : w3.heap.size ≠ w5.heap.size := Nat.ne_of_lt vs2
  all_goals have vn4 : w5.heap.size ≠ w3.heap.size := vn3.symm
  all_goals go_region_held3 (fun W => W.cell? ⟨w.heap.size + 1, 0, none⟩ = some (.string s0) ∧ W.cell? ⟨w.heap.size + 1, 1, none⟩ = some (.string s1) ∧ W.cell? ⟨w3.heap.size, 0, none⟩ = some (.int .u32 A) ∧ W.cell? ⟨w3.heap.size, 1, none⟩ = some (.int .i64 N)) (go_keep) (first | (go_at_call 31; refine (hc _).mono ?_; rintro e w4 ⟨rfl, hb4⟩; (first | (have ordA : True := trivial; have h54 : Below w5.heap.size w5 w4 := ((Below.refl _ _).drew).trans hb4) | (have ordB : True := trivial; have h54 : Below w5.heap.size w5 w4 := (((Below.refl _ _).drew).alloc (Nat.le_refl _) _).trans (hb4.mono (by simp)); have hgx0 := (hb4.block w5.heap.size (by simp)).trans (al_mine w5.drew 0 false 0 0 0 0); obtain ⟨x0, x1, x2, x3, x4, x5, fx0, fx1, fx2, fx3, fx4, fx5⟩ := rc_all hgx0)); have j0 := be_cell h54 v0; have j1 := be_cell h54 v1; have j2 := be_cell h54 v2; have j3 := be_cell h54 v3; have js := Nat.lt_of_lt_of_le vs1 h54.size; have jt := Nat.lt_of_lt_of_le vs2 h54.size; have jz := h54.size))
  · have _t := ordA
    have HX : (w4.alloc (.cells #[.int .i64 m, .bool true, .int .u32 A, .int .i64 N, .int .i64 0, .int .i64 0] 26)).heap[w4.heap.size]? = some (ruleCells m true A N 0 0) := al_mine w4 m true A N 0 0
    have HG : (w4.alloc (.cells #[.int .i64 m, .bool true, .int .u32 A, .int .i64 N, .int .i64 0, .int .i64 0] 26)).heap[w.heap.size]? = some (ruleCells 0 false 0 0 0 0) := al_keep _ (be_keep h54 vg)
    have QW := Aside0.mk (fun (j : Nat) (s : ByteArray) (hj : xs[j]? = some s) => (show (w4.alloc (.cells #[.int .i64 m, .bool true, .int .u32 A, .int .i64 N, .int .i64 0, .int .i64 0] 26)).cell? ⟨w.heap.size + 1, j, none⟩ = some (.string s) from (World.cell?_alloc_lt w4 _ ⟨w.heap.size + 1, j, none⟩ js).trans (be_cell h54 (QV.out j s hj))))
    have B6 : Below w.heap.size w (w4.alloc (.cells #[.int .i64 m, .bool true, .int .u32 A, .int .i64 N, .int .i64 0, .int .i64 0] 26)) := be_al _ (be_go h54 vb (Nat.le_refl _)) (Nat.le_refl _)
    have gs : w4.heap.size < (w4.alloc (.cells #[.int .i64 m, .bool true, .int .u32 A, .int .i64 N, .int .i64 0, .int .i64 0] 26)).heap.size := by simp
    have gw : w.heap.size + 1 < w4.heap.size := js
    have bs : w.heap.size + 1 < (w4.alloc (.cells #[.int .i64 m, .bool true, .int .u32 A, .int .i64 N, .int .i64 0, .int .i64 0] 26)).heap.size := Nat.lt_trans gw gs
    clear ordA
    clear h54 vg vb hb4 v0 v1 v2 v3 vs1 vs2 vn1 vn2 vn3 vn4 QV j0 j1 j2 j3 js jt jz
    generalize w4.alloc (.cells #[.int .i64 m, .bool true, .int .u32 A, .int .i64 N, .int .i64 0, .int .i64 0] 26) = w6 at *
    generalize w4.heap.size = gx at *
    obtain ⟨r0, r1, r2, r3, r4, r5, f0, f1, f2, f3, f4, f5⟩ := rc_all HG
    go_wp2_with (go_at_call 33; refine (HL.out _ gx HX QW.out gw).mono ?_; rintro e w7 ⟨rfl, hx7, hb7⟩; have hg7 := (hb7.block w.heap.size (by omega)).trans HG; have B7 : Below w.heap.size w w7 := B6.trans (hb7.mono (by omega)); clear r0 r1 r2 r3 r4 r5 f0 f1 f2 f3 f4 f5; obtain ⟨r0, r1, r2, r3, r4, r5, f0, f1, f2, f3, f4, f5⟩ := rc_all hg7; obtain ⟨x0, x1, x2, x3, x4, x5, y0, y1, y2, y3, y4, y5⟩ := rc_all hx7)
    exact bodyPost_ret (results_ct rfl _ _ w.heap.size 26 _ (0, 0) _ rfl (set6 hg7) Tryz.underlying26 rfl rfl) rfl ⟨rfl, set6_below B7 (Nat.le_refl _)⟩
  · have _t := ordB
    have HX : (((((((w4.setCell ⟨w5.heap.size, 0, none⟩ (.int .i64 m)).setCell ⟨w5.heap.size, 1, none⟩ (.bool true)).setCell ⟨w5.heap.size, 2, none⟩ (.int .u32 A)).setCell ⟨w5.heap.size, 3, none⟩ (.int .i64 N)).setCell ⟨w5.heap.size, 4, none⟩ (.int .i64 0)).setCell ⟨w5.heap.size, 5, none⟩ (.int .i64 0))).heap[w5.heap.size]? = some (ruleCells m true A N 0 0) := set6 hgx0
    have HG : (((((((w4.setCell ⟨w5.heap.size, 0, none⟩ (.int .i64 m)).setCell ⟨w5.heap.size, 1, none⟩ (.bool true)).setCell ⟨w5.heap.size, 2, none⟩ (.int .u32 A)).setCell ⟨w5.heap.size, 3, none⟩ (.int .i64 N)).setCell ⟨w5.heap.size, 4, none⟩ (.int .i64 0)).setCell ⟨w5.heap.size, 5, none⟩ (.int .i64 0))).heap[w.heap.size]? = some (ruleCells 0 false 0 0 0 0) := (set6_far (by omega)).trans (be_keep h54 vg)
    have QW := Aside0.mk (fun (j : Nat) (s : ByteArray) (hj : xs[j]? = some s) => (show (((((((w4.setCell ⟨w5.heap.size, 0, none⟩ (.int .i64 m)).setCell ⟨w5.heap.size, 1, none⟩ (.bool true)).setCell ⟨w5.heap.size, 2, none⟩ (.int .u32 A)).setCell ⟨w5.heap.size, 3, none⟩ (.int .i64 N)).setCell ⟨w5.heap.size, 4, none⟩ (.int .i64 0)).setCell ⟨w5.heap.size, 5, none⟩ (.int .i64 0))).cell? ⟨w.heap.size + 1, j, none⟩ = some (.string s) from (World.cell?_of_block (set6_far (by omega))).trans (be_cell h54 (QV.out j s hj))))
    have B6 : Below w.heap.size w (((((((w4.setCell ⟨w5.heap.size, 0, none⟩ (.int .i64 m)).setCell ⟨w5.heap.size, 1, none⟩ (.bool true)).setCell ⟨w5.heap.size, 2, none⟩ (.int .u32 A)).setCell ⟨w5.heap.size, 3, none⟩ (.int .i64 N)).setCell ⟨w5.heap.size, 4, none⟩ (.int .i64 0)).setCell ⟨w5.heap.size, 5, none⟩ (.int .i64 0))) := set6_below (be_go h54 vb (Nat.le_refl _)) (by omega)
    have gs : w5.heap.size < (((((((w4.setCell ⟨w5.heap.size, 0, none⟩ (.int .i64 m)).setCell ⟨w5.heap.size, 1, none⟩ (.bool true)).setCell ⟨w5.heap.size, 2, none⟩ (.int .u32 A)).setCell ⟨w5.heap.size, 3, none⟩ (.int .i64 N)).setCell ⟨w5.heap.size, 4, none⟩ (.int .i64 0)).setCell ⟨w5.heap.size, 5, none⟩ (.int .i64 0))).heap.size := by have q := blk_lt hgx0; simpa [World.setCell] using q
    have gw : w.heap.size + 1 < w5.heap.size := vs1
    have bs : w.heap.size + 1 < (((((((w4.setCell ⟨w5.heap.size, 0, none⟩ (.int .i64 m)).setCell ⟨w5.heap.size, 1, none⟩ (.bool true)).setCell ⟨w5.heap.size, 2, none⟩ (.int .u32 A)).setCell ⟨w5.heap.size, 3, none⟩ (.int .i64 N)).setCell ⟨w5.heap.size, 4, none⟩ (.int .i64 0)).setCell ⟨w5.heap.size, 5, none⟩ (.int .i64 0))).heap.size := Nat.lt_trans gw gs
    clear ordB hgx0 x0 x1 x2 x3 x4 x5 fx0 fx1 fx2 fx3 fx4 fx5
    clear h54 vg vb hb4 v0 v1 v2 v3 vs1 vs2 vn1 vn2 vn3 vn4 QV j0 j1 j2 j3 js jt jz
    generalize ((((((w4.setCell ⟨w5.heap.size, 0, none⟩ (.int .i64 m)).setCell ⟨w5.heap.size, 1, none⟩ (.bool true)).setCell ⟨w5.heap.size, 2, none⟩ (.int .u32 A)).setCell ⟨w5.heap.size, 3, none⟩ (.int .i64 N)).setCell ⟨w5.heap.size, 4, none⟩ (.int .i64 0)).setCell ⟨w5.heap.size, 5, none⟩ (.int .i64 0)) = w6 at *
    generalize w5.heap.size = gx at *
    obtain ⟨r0, r1, r2, r3, r4, r5, f0, f1, f2, f3, f4, f5⟩ := rc_all HG
    go_wp2_with (go_at_call 33; refine (HL.out _ gx HX QW.out gw).mono ?_; rintro e w7 ⟨rfl, hx7, hb7⟩; have hg7 := (hb7.block w.heap.size (by omega)).trans HG; have B7 : Below w.heap.size w w7 := B6.trans (hb7.mono (by omega)); clear r0 r1 r2 r3 r4 r5 f0 f1 f2 f3 f4 f5; obtain ⟨r0, r1, r2, r3, r4, r5, f0, f1, f2, f3, f4, f5⟩ := rc_all hg7; obtain ⟨x0, x1, x2, x3, x4, x5, y0, y1, y2, y3, y4, y5⟩ := rc_all hx7)
    exact bodyPost_ret (results_ct rfl _ _ w.heap.size 26 _ (0, 0) _ rfl (set6 hg7) Tryz.underlying26 rfl rfl) rfl ⟨rfl, set6_below B7 (Nat.le_refl _)⟩
set_option maxRecDepth 20000 in
set_option maxHeartbeats 4000000 in
theorem parse_en_false (a0 : ByteArray) (xs : List ByteArray) (w : World) (s0 s1 s2 : ByteArray) (m : Int) (hx0 : xs[0]? = some s0) (hx1 : xs[1]? = some s1) (hx2 : xs[2]? = some s2)
    (hS : ∀ W : World, Below w.heap.size w W → Calls Tryz.prog 30 #[.string a0, .string ⟨#[32]⟩] W fun e w' => e = .returned (.slice (some ⟨W.heap.size, 0, none⟩) xs.length xs.length) ∧ Words W w' xs) (hl : decide ((xs.length : Int) < 3) = false)
    (hn : plist_number.f s0 = some m) (hm : (m == 0) = false) (hs1 : (s1.toList == [112, 101, 114, 109, 105, 116]) = false) (hs3 : (s1.toList == [100, 101, 110, 121]) = true) (A N e3 : Int)
    (hA : ∀ W : World, Below w.heap.size w W → Calls Tryz.prog 32 #[.string s2] W fun e w' => e = .returned (.tuple #[.agg #[.int .u32 A, .int .i64 N], .int .i64 e3]) ∧ Below W.heap.size W w') (he : (e3 == 3) = false) (he0 : (e3 != 0) = true) (ge le : Int) (hx3 : ¬ (xs.length = 3)) (hL : ∀ (W : World) (gx : Nat), W.heap[gx]? = some (ruleCells m false A N 0 0) → (∀ (j : Nat) (s : ByteArray), xs[j]? = some s → W.cell? ⟨w.heap.size + 1, j, none⟩ = some (.string s)) → w.heap.size + 1 < gx →
      Calls Tryz.prog 33 #[.pointer (some ⟨gx, 0, none⟩), .slice (some ⟨w.heap.size + 1, 3, none⟩) (xs.length - 3) (xs.length - 3)] W fun e w' => LimPost gx m false A N ge le true W e w') :
    Calls Tryz.prog 8 #[.string a0] w fun e w' => e = .returned (.tuple #[.agg #[.int .i64 0, .bool false, .int .u32 0, .int .i64 0, .int .i64 0, .int .i64 0], .int .i64 1]) ∧ Below w.heap.size w w' := by
  have h0 : 0 < (xs.length : Int) := by simp at hl; omega
  have h1 : 1 < (xs.length : Int) := by simp at hl; omega
  have h2 : 0 < xs.length := by omega
  have h3 : 1 < xs.length := by omega
  have h4 : ¬ (xs.length : Int) < 3 := by simp at hl; omega
  have h5 : 2 < (xs.length : Int) := by simp at hl; omega
  have h6 : 2 < xs.length := by omega
  have hc := fun W => plist_number.calls s0 m W hn
  clear hn
  have h3z : (3 : Int) ≤ (xs.length : Int) := by simp at hl; omega
  have HL := Aside0.mk hL
  clear hL
  go_enter Tryz.func8, Tryz.ntmps8
  go_wp2_with (first | (go_at_call 30; refine (hS _ (be_al _ (Below.refl _ _) (Nat.le_refl _))).mono ?_; rintro e w' ⟨rfl, hb, qs, qw⟩; replace qs : w.heap.size + 1 < w'.heap.size := (by simpa using qs); have q0 : w'.cell? ⟨w.heap.size + 1, 0, none⟩ = some (.string s0) := (by simpa using qw 0 s0 hx0); have q1 : w'.cell? ⟨w.heap.size + 1, 1, none⟩ = some (.string s1) := (by simpa using qw 1 s1 hx1); have q2 : w'.cell? ⟨w.heap.size + 1, 2, none⟩ = some (.string s2) := (by simpa using qw 2 s2 hx2); have hg := be_keep hb (al_mine w 0 false 0 0 0 0); have QW := Aside0.mk (show ∀ (j : Nat) (s : ByteArray), xs[j]? = some s → w'.cell? ⟨w.heap.size + 1, j, none⟩ = some (.string s) from fun j s hj => by simpa using qw j s hj); clear qw) | (go_at_call 31; refine (hc _).mono ?_; rintro e w2 ⟨rfl, hb2⟩; have z0 := be_cell hb2 q0; have z1 := be_cell hb2 q1; have z2 := be_cell hb2 q2; have hg2 := be_keep hb2 hg; obtain ⟨r0, r1, r2, r3, r4, r5, f0, f1, f2, f3, f4, f5⟩ := rc_all hg2) | (go_at_call 32; refine (hA _ (be_go hb2 (be_go hb (be_al _ (Below.refl _ _) (Nat.le_refl _)) (Nat.le_refl _)) (Nat.le_refl _))).mono ?_; rintro e w3 ⟨rfl, hb3⟩; have hg3 := be_keep hb3 hg2))
  all_goals have v2 : (w3.alloc (.cells #[.int .u32 A, .int .i64 N] 24)).cell? ⟨w3.heap.size, 0, none⟩ = some (.int .u32 A) := (al_new rfl).trans rfl
  all_goals have v3 : (w3.alloc (.cells #[.int .u32 A, .int .i64 N] 24)).cell? ⟨w3.heap.size, 1, none⟩ = some (.int .i64 N) := (al_new rfl).trans rfl
  all_goals have y0 := be_cell hb3 z0
  all_goals have y1 := be_cell hb3 z1
  all_goals have v0 := (World.cell?_alloc_some w3 _ (.cells #[.int .u32 A, .int .i64 N] 24) (by rw [y0]; rfl)).trans y0
  all_goals have v1 := (World.cell?_alloc_some w3 _ (.cells #[.int .u32 A, .int .i64 N] 24) (by rw [y1]; rfl)).trans y1
  all_goals have vg := al_keep (.cells #[.int .u32 A, .int .i64 N] 24) hg3
  all_goals have vb : Below w.heap.size w (w3.alloc (.cells #[.int .u32 A, .int .i64 N] 24)) := by (repeat with_reducible first | exact Below.refl _ _ | apply Below.drew | refine be_al _ ?_ (Nat.le_refl _) | refine be_set _ _ ?_ (Nat.le_refl _) | refine be_go hb3 ?_ (Nat.le_refl _) | refine be_go hb2 ?_ (Nat.le_refl _) | refine be_go hb ?_ (Nat.le_refl _))
  all_goals have vq : Below w'.heap.size w' (w3.alloc (.cells #[.int .u32 A, .int .i64 N] 24)) := ((hb2.trans (hb3.mono hb2.size)).alloc (Nat.le_trans hb2.size hb3.size) _)
  all_goals have vs1 : w.heap.size + 1 < (w3.alloc (.cells #[.int .u32 A, .int .i64 N] 24)).heap.size := Nat.lt_of_lt_of_le qs vq.size
  all_goals have vs2 : w3.heap.size < (w3.alloc (.cells #[.int .u32 A, .int .i64 N] 24)).heap.size := by simp
  all_goals have QV := Aside0.mk (fun j s hj => be_cell vq (QW.out j s hj))
  all_goals clear hb hb2 hb3 z0 z1 z2 y0 y1 hg hg2 hg3 q0 q1 q2 r0 r1 r2 r3 r4 r5 f0 f1 f2 f3 f4 f5 QW vq
  all_goals generalize w3.alloc (.cells #[.int .u32 A, .int .i64 N] 24) = w5 at *
  all_goals have vn1 : w.heap.size + 1 ≠ w5.heap.size := Nat.ne_of_lt vs1
  all_goals have vn2 : w5.heap.size ≠ w.heap.size + 1 := vn1.symm
  all_goals have vn3 : w3.heap.size ≠ w5.heap.size := Nat.ne_of_lt vs2
  all_goals have vn4 : w5.heap.size ≠ w3.heap.size := vn3.symm
  all_goals go_region_held3 (fun W => W.cell? ⟨w.heap.size + 1, 0, none⟩ = some (.string s0) ∧ W.cell? ⟨w.heap.size + 1, 1, none⟩ = some (.string s1) ∧ W.cell? ⟨w3.heap.size, 0, none⟩ = some (.int .u32 A) ∧ W.cell? ⟨w3.heap.size, 1, none⟩ = some (.int .i64 N)) (go_keep) (first | (go_at_call 31; refine (hc _).mono ?_; rintro e w4 ⟨rfl, hb4⟩; (first | (have ordA : True := trivial; have h54 : Below w5.heap.size w5 w4 := ((Below.refl _ _).drew).trans hb4) | (have ordB : True := trivial; have h54 : Below w5.heap.size w5 w4 := (((Below.refl _ _).drew).alloc (Nat.le_refl _) _).trans (hb4.mono (by simp)); have hgx0 := (hb4.block w5.heap.size (by simp)).trans (al_mine w5.drew 0 false 0 0 0 0); obtain ⟨x0, x1, x2, x3, x4, x5, fx0, fx1, fx2, fx3, fx4, fx5⟩ := rc_all hgx0)); have j0 := be_cell h54 v0; have j1 := be_cell h54 v1; have j2 := be_cell h54 v2; have j3 := be_cell h54 v3; have js := Nat.lt_of_lt_of_le vs1 h54.size; have jt := Nat.lt_of_lt_of_le vs2 h54.size; have jz := h54.size))
  · have _t := ordA
    have HX : (w4.alloc (.cells #[.int .i64 m, .bool false, .int .u32 A, .int .i64 N, .int .i64 0, .int .i64 0] 26)).heap[w4.heap.size]? = some (ruleCells m false A N 0 0) := al_mine w4 m false A N 0 0
    have HG : (w4.alloc (.cells #[.int .i64 m, .bool false, .int .u32 A, .int .i64 N, .int .i64 0, .int .i64 0] 26)).heap[w.heap.size]? = some (ruleCells 0 false 0 0 0 0) := al_keep _ (be_keep h54 vg)
    have QW := Aside0.mk (fun (j : Nat) (s : ByteArray) (hj : xs[j]? = some s) => (show (w4.alloc (.cells #[.int .i64 m, .bool false, .int .u32 A, .int .i64 N, .int .i64 0, .int .i64 0] 26)).cell? ⟨w.heap.size + 1, j, none⟩ = some (.string s) from (World.cell?_alloc_lt w4 _ ⟨w.heap.size + 1, j, none⟩ js).trans (be_cell h54 (QV.out j s hj))))
    have B6 : Below w.heap.size w (w4.alloc (.cells #[.int .i64 m, .bool false, .int .u32 A, .int .i64 N, .int .i64 0, .int .i64 0] 26)) := be_al _ (be_go h54 vb (Nat.le_refl _)) (Nat.le_refl _)
    have gs : w4.heap.size < (w4.alloc (.cells #[.int .i64 m, .bool false, .int .u32 A, .int .i64 N, .int .i64 0, .int .i64 0] 26)).heap.size := by simp
    have gw : w.heap.size + 1 < w4.heap.size := js
    have bs : w.heap.size + 1 < (w4.alloc (.cells #[.int .i64 m, .bool false, .int .u32 A, .int .i64 N, .int .i64 0, .int .i64 0] 26)).heap.size := Nat.lt_trans gw gs
    clear ordA
    clear h54 vg vb hb4 v0 v1 v2 v3 vs1 vs2 vn1 vn2 vn3 vn4 QV j0 j1 j2 j3 js jt jz
    generalize w4.alloc (.cells #[.int .i64 m, .bool false, .int .u32 A, .int .i64 N, .int .i64 0, .int .i64 0] 26) = w6 at *
    generalize w4.heap.size = gx at *
    obtain ⟨r0, r1, r2, r3, r4, r5, f0, f1, f2, f3, f4, f5⟩ := rc_all HG
    go_wp2_with (go_at_call 33; refine (HL.out _ gx HX QW.out gw).mono ?_; rintro e w7 ⟨rfl, hx7, hb7⟩; have hg7 := (hb7.block w.heap.size (by omega)).trans HG; have B7 : Below w.heap.size w w7 := B6.trans (hb7.mono (by omega)); clear r0 r1 r2 r3 r4 r5 f0 f1 f2 f3 f4 f5; obtain ⟨r0, r1, r2, r3, r4, r5, f0, f1, f2, f3, f4, f5⟩ := rc_all hg7; obtain ⟨x0, x1, x2, x3, x4, x5, y0, y1, y2, y3, y4, y5⟩ := rc_all hx7)
    exact bodyPost_ret (results_ct rfl _ _ w.heap.size 26 _ (0, 0) _ rfl (set6 hg7) Tryz.underlying26 rfl rfl) rfl ⟨rfl, set6_below B7 (Nat.le_refl _)⟩
  · have _t := ordB
    have HX : (((((((w4.setCell ⟨w5.heap.size, 0, none⟩ (.int .i64 m)).setCell ⟨w5.heap.size, 1, none⟩ (.bool false)).setCell ⟨w5.heap.size, 2, none⟩ (.int .u32 A)).setCell ⟨w5.heap.size, 3, none⟩ (.int .i64 N)).setCell ⟨w5.heap.size, 4, none⟩ (.int .i64 0)).setCell ⟨w5.heap.size, 5, none⟩ (.int .i64 0))).heap[w5.heap.size]? = some (ruleCells m false A N 0 0) := set6 hgx0
    have HG : (((((((w4.setCell ⟨w5.heap.size, 0, none⟩ (.int .i64 m)).setCell ⟨w5.heap.size, 1, none⟩ (.bool false)).setCell ⟨w5.heap.size, 2, none⟩ (.int .u32 A)).setCell ⟨w5.heap.size, 3, none⟩ (.int .i64 N)).setCell ⟨w5.heap.size, 4, none⟩ (.int .i64 0)).setCell ⟨w5.heap.size, 5, none⟩ (.int .i64 0))).heap[w.heap.size]? = some (ruleCells 0 false 0 0 0 0) := (set6_far (by omega)).trans (be_keep h54 vg)
    have QW := Aside0.mk (fun (j : Nat) (s : ByteArray) (hj : xs[j]? = some s) => (show (((((((w4.setCell ⟨w5.heap.size, 0, none⟩ (.int .i64 m)).setCell ⟨w5.heap.size, 1, none⟩ (.bool false)).setCell ⟨w5.heap.size, 2, none⟩ (.int .u32 A)).setCell ⟨w5.heap.size, 3, none⟩ (.int .i64 N)).setCell ⟨w5.heap.size, 4, none⟩ (.int .i64 0)).setCell ⟨w5.heap.size, 5, none⟩ (.int .i64 0))).cell? ⟨w.heap.size + 1, j, none⟩ = some (.string s) from (World.cell?_of_block (set6_far (by omega))).trans (be_cell h54 (QV.out j s hj))))
    have B6 : Below w.heap.size w (((((((w4.setCell ⟨w5.heap.size, 0, none⟩ (.int .i64 m)).setCell ⟨w5.heap.size, 1, none⟩ (.bool false)).setCell ⟨w5.heap.size, 2, none⟩ (.int .u32 A)).setCell ⟨w5.heap.size, 3, none⟩ (.int .i64 N)).setCell ⟨w5.heap.size, 4, none⟩ (.int .i64 0)).setCell ⟨w5.heap.size, 5, none⟩ (.int .i64 0))) := set6_below (be_go h54 vb (Nat.le_refl _)) (by omega)
    have gs : w5.heap.size < (((((((w4.setCell ⟨w5.heap.size, 0, none⟩ (.int .i64 m)).setCell ⟨w5.heap.size, 1, none⟩ (.bool false)).setCell ⟨w5.heap.size, 2, none⟩ (.int .u32 A)).setCell ⟨w5.heap.size, 3, none⟩ (.int .i64 N)).setCell ⟨w5.heap.size, 4, none⟩ (.int .i64 0)).setCell ⟨w5.heap.size, 5, none⟩ (.int .i64 0))).heap.size := by have q := blk_lt hgx0; simpa [World.setCell] using q
    have gw : w.heap.size + 1 < w5.heap.size := vs1
    have bs : w.heap.size + 1 < (((((((w4.setCell ⟨w5.heap.size, 0, none⟩ (.int .i64 m)).setCell ⟨w5.heap.size, 1, none⟩ (.bool false)).setCell ⟨w5.heap.size, 2, none⟩ (.int .u32 A)).setCell ⟨w5.heap.size, 3, none⟩ (.int .i64 N)).setCell ⟨w5.heap.size, 4, none⟩ (.int .i64 0)).setCell ⟨w5.heap.size, 5, none⟩ (.int .i64 0))).heap.size := Nat.lt_trans gw gs
    clear ordB hgx0 x0 x1 x2 x3 x4 x5 fx0 fx1 fx2 fx3 fx4 fx5
    clear h54 vg vb hb4 v0 v1 v2 v3 vs1 vs2 vn1 vn2 vn3 vn4 QV j0 j1 j2 j3 js jt jz
    generalize ((((((w4.setCell ⟨w5.heap.size, 0, none⟩ (.int .i64 m)).setCell ⟨w5.heap.size, 1, none⟩ (.bool false)).setCell ⟨w5.heap.size, 2, none⟩ (.int .u32 A)).setCell ⟨w5.heap.size, 3, none⟩ (.int .i64 N)).setCell ⟨w5.heap.size, 4, none⟩ (.int .i64 0)).setCell ⟨w5.heap.size, 5, none⟩ (.int .i64 0)) = w6 at *
    generalize w5.heap.size = gx at *
    obtain ⟨r0, r1, r2, r3, r4, r5, f0, f1, f2, f3, f4, f5⟩ := rc_all HG
    go_wp2_with (go_at_call 33; refine (HL.out _ gx HX QW.out gw).mono ?_; rintro e w7 ⟨rfl, hx7, hb7⟩; have hg7 := (hb7.block w.heap.size (by omega)).trans HG; have B7 : Below w.heap.size w w7 := B6.trans (hb7.mono (by omega)); clear r0 r1 r2 r3 r4 r5 f0 f1 f2 f3 f4 f5; obtain ⟨r0, r1, r2, r3, r4, r5, f0, f1, f2, f3, f4, f5⟩ := rc_all hg7; obtain ⟨x0, x1, x2, x3, x4, x5, y0, y1, y2, y3, y4, y5⟩ := rc_all hx7)
    exact bodyPost_ret (results_ct rfl _ _ w.heap.size 26 _ (0, 0) _ rfl (set6 hg7) Tryz.underlying26 rfl rfl) rfl ⟨rfl, set6_below B7 (Nat.le_refl _)⟩
set_option maxRecDepth 20000 in
set_option maxHeartbeats 4000000 in
theorem parse_mn_true (a0 : ByteArray) (xs : List ByteArray) (w : World) (s0 s1 s2 : ByteArray) (m : Int) (hx0 : xs[0]? = some s0) (hx1 : xs[1]? = some s1) (hx2 : xs[2]? = some s2)
    (hS : ∀ W : World, Below w.heap.size w W → Calls Tryz.prog 30 #[.string a0, .string ⟨#[32]⟩] W fun e w' => e = .returned (.slice (some ⟨W.heap.size, 0, none⟩) xs.length xs.length) ∧ Words W w' xs) (hl : decide ((xs.length : Int) < 3) = false)
    (hn : plist_number.f s0 = some m) (hm : (m == 0) = false) (hs1 : (s1.toList == [112, 101, 114, 109, 105, 116]) = true)  (A N : Int)
    (hA : ∀ W : World, Below w.heap.size w W → Calls Tryz.prog 32 #[.string s2] W fun e w' => e = .returned (.tuple #[.agg #[.int .u32 A, .int .i64 N], .int .i64 0]) ∧ Below W.heap.size W w') (ge le : Int) (hx3 : ¬ (xs.length = 3)) (hL : ∀ (W : World) (gx : Nat), W.heap[gx]? = some (ruleCells m true A N 0 0) → (∀ (j : Nat) (s : ByteArray), xs[j]? = some s → W.cell? ⟨w.heap.size + 1, j, none⟩ = some (.string s)) → w.heap.size + 1 < gx →
      Calls Tryz.prog 33 #[.pointer (some ⟨gx, 0, none⟩), .slice (some ⟨w.heap.size + 1, 3, none⟩) (xs.length - 3) (xs.length - 3)] W fun e w' => LimPost gx m true A N ge le true W e w') (hM : ∀ W : World, Calls Tryz.prog 10 #[.agg #[.int .i64 m, .bool true, .int .u32 A, .int .i64 N, .int .i64 ge, .int .i64 le]] W fun e w' => e = .returned (.bool false) ∧ Below W.heap.size W w') :
    Calls Tryz.prog 8 #[.string a0] w fun e w' => e = .returned (.tuple #[.agg #[.int .i64 0, .bool false, .int .u32 0, .int .i64 0, .int .i64 0, .int .i64 0], .int .i64 1]) ∧ Below w.heap.size w w' := by
  have h0 : 0 < (xs.length : Int) := by simp at hl; omega
  have h1 : 1 < (xs.length : Int) := by simp at hl; omega
  have h2 : 0 < xs.length := by omega
  have h3 : 1 < xs.length := by omega
  have h4 : ¬ (xs.length : Int) < 3 := by simp at hl; omega
  have h5 : 2 < (xs.length : Int) := by simp at hl; omega
  have h6 : 2 < xs.length := by omega
  have hc := fun W => plist_number.calls s0 m W hn
  clear hn
  have h3z : (3 : Int) ≤ (xs.length : Int) := by simp at hl; omega
  have HL := Aside0.mk hL
  clear hL
  go_enter Tryz.func8, Tryz.ntmps8
  go_wp2_with (first | (go_at_call 30; refine (hS _ (be_al _ (Below.refl _ _) (Nat.le_refl _))).mono ?_; rintro e w' ⟨rfl, hb, qs, qw⟩; replace qs : w.heap.size + 1 < w'.heap.size := (by simpa using qs); have q0 : w'.cell? ⟨w.heap.size + 1, 0, none⟩ = some (.string s0) := (by simpa using qw 0 s0 hx0); have q1 : w'.cell? ⟨w.heap.size + 1, 1, none⟩ = some (.string s1) := (by simpa using qw 1 s1 hx1); have q2 : w'.cell? ⟨w.heap.size + 1, 2, none⟩ = some (.string s2) := (by simpa using qw 2 s2 hx2); have hg := be_keep hb (al_mine w 0 false 0 0 0 0); have QW := Aside0.mk (show ∀ (j : Nat) (s : ByteArray), xs[j]? = some s → w'.cell? ⟨w.heap.size + 1, j, none⟩ = some (.string s) from fun j s hj => by simpa using qw j s hj); clear qw) | (go_at_call 31; refine (hc _).mono ?_; rintro e w2 ⟨rfl, hb2⟩; have z0 := be_cell hb2 q0; have z1 := be_cell hb2 q1; have z2 := be_cell hb2 q2; have hg2 := be_keep hb2 hg; obtain ⟨r0, r1, r2, r3, r4, r5, f0, f1, f2, f3, f4, f5⟩ := rc_all hg2) | (go_at_call 32; refine (hA _ (be_go hb2 (be_go hb (be_al _ (Below.refl _ _) (Nat.le_refl _)) (Nat.le_refl _)) (Nat.le_refl _))).mono ?_; rintro e w3 ⟨rfl, hb3⟩; have hg3 := be_keep hb3 hg2))
  all_goals have v2 : (w3.alloc (.cells #[.int .u32 A, .int .i64 N] 24)).cell? ⟨w3.heap.size, 0, none⟩ = some (.int .u32 A) := (al_new rfl).trans rfl
  all_goals have v3 : (w3.alloc (.cells #[.int .u32 A, .int .i64 N] 24)).cell? ⟨w3.heap.size, 1, none⟩ = some (.int .i64 N) := (al_new rfl).trans rfl
  all_goals have y0 := be_cell hb3 z0
  all_goals have y1 := be_cell hb3 z1
  all_goals have v0 := (World.cell?_alloc_some w3 _ (.cells #[.int .u32 A, .int .i64 N] 24) (by rw [y0]; rfl)).trans y0
  all_goals have v1 := (World.cell?_alloc_some w3 _ (.cells #[.int .u32 A, .int .i64 N] 24) (by rw [y1]; rfl)).trans y1
  all_goals have vg := al_keep (.cells #[.int .u32 A, .int .i64 N] 24) hg3
  all_goals have vb : Below w.heap.size w (w3.alloc (.cells #[.int .u32 A, .int .i64 N] 24)) := by (repeat with_reducible first | exact Below.refl _ _ | apply Below.drew | refine be_al _ ?_ (Nat.le_refl _) | refine be_set _ _ ?_ (Nat.le_refl _) | refine be_go hb3 ?_ (Nat.le_refl _) | refine be_go hb2 ?_ (Nat.le_refl _) | refine be_go hb ?_ (Nat.le_refl _))
  all_goals have vq : Below w'.heap.size w' (w3.alloc (.cells #[.int .u32 A, .int .i64 N] 24)) := ((hb2.trans (hb3.mono hb2.size)).alloc (Nat.le_trans hb2.size hb3.size) _)
  all_goals have vs1 : w.heap.size + 1 < (w3.alloc (.cells #[.int .u32 A, .int .i64 N] 24)).heap.size := Nat.lt_of_lt_of_le qs vq.size
  all_goals have vs2 : w3.heap.size < (w3.alloc (.cells #[.int .u32 A, .int .i64 N] 24)).heap.size := by simp
  all_goals have QV := Aside0.mk (fun j s hj => be_cell vq (QW.out j s hj))
  all_goals clear hb hb2 hb3 z0 z1 z2 y0 y1 hg hg2 hg3 q0 q1 q2 r0 r1 r2 r3 r4 r5 f0 f1 f2 f3 f4 f5 QW vq
  all_goals generalize w3.alloc (.cells #[.int .u32 A, .int .i64 N] 24) = w5 at *
  all_goals have vn1 : w.heap.size + 1 ≠ w5.heap.size := Nat.ne_of_lt vs1
  all_goals have vn2 : w5.heap.size ≠ w.heap.size + 1 := vn1.symm
  all_goals have vn3 : w3.heap.size ≠ w5.heap.size := Nat.ne_of_lt vs2
  all_goals have vn4 : w5.heap.size ≠ w3.heap.size := vn3.symm
  all_goals go_region_held3 (fun W => W.cell? ⟨w.heap.size + 1, 0, none⟩ = some (.string s0) ∧ W.cell? ⟨w.heap.size + 1, 1, none⟩ = some (.string s1) ∧ W.cell? ⟨w3.heap.size, 0, none⟩ = some (.int .u32 A) ∧ W.cell? ⟨w3.heap.size, 1, none⟩ = some (.int .i64 N)) (go_keep) (first | (go_at_call 31; refine (hc _).mono ?_; rintro e w4 ⟨rfl, hb4⟩; (first | (have ordA : True := trivial; have h54 : Below w5.heap.size w5 w4 := ((Below.refl _ _).drew).trans hb4) | (have ordB : True := trivial; have h54 : Below w5.heap.size w5 w4 := (((Below.refl _ _).drew).alloc (Nat.le_refl _) _).trans (hb4.mono (by simp)); have hgx0 := (hb4.block w5.heap.size (by simp)).trans (al_mine w5.drew 0 false 0 0 0 0); obtain ⟨x0, x1, x2, x3, x4, x5, fx0, fx1, fx2, fx3, fx4, fx5⟩ := rc_all hgx0)); have j0 := be_cell h54 v0; have j1 := be_cell h54 v1; have j2 := be_cell h54 v2; have j3 := be_cell h54 v3; have js := Nat.lt_of_lt_of_le vs1 h54.size; have jt := Nat.lt_of_lt_of_le vs2 h54.size; have jz := h54.size))
  · have _t := ordA
    have HX : (w4.alloc (.cells #[.int .i64 m, .bool true, .int .u32 A, .int .i64 N, .int .i64 0, .int .i64 0] 26)).heap[w4.heap.size]? = some (ruleCells m true A N 0 0) := al_mine w4 m true A N 0 0
    have HG : (w4.alloc (.cells #[.int .i64 m, .bool true, .int .u32 A, .int .i64 N, .int .i64 0, .int .i64 0] 26)).heap[w.heap.size]? = some (ruleCells 0 false 0 0 0 0) := al_keep _ (be_keep h54 vg)
    have QW := Aside0.mk (fun (j : Nat) (s : ByteArray) (hj : xs[j]? = some s) => (show (w4.alloc (.cells #[.int .i64 m, .bool true, .int .u32 A, .int .i64 N, .int .i64 0, .int .i64 0] 26)).cell? ⟨w.heap.size + 1, j, none⟩ = some (.string s) from (World.cell?_alloc_lt w4 _ ⟨w.heap.size + 1, j, none⟩ js).trans (be_cell h54 (QV.out j s hj))))
    have B6 : Below w.heap.size w (w4.alloc (.cells #[.int .i64 m, .bool true, .int .u32 A, .int .i64 N, .int .i64 0, .int .i64 0] 26)) := be_al _ (be_go h54 vb (Nat.le_refl _)) (Nat.le_refl _)
    have gs : w4.heap.size < (w4.alloc (.cells #[.int .i64 m, .bool true, .int .u32 A, .int .i64 N, .int .i64 0, .int .i64 0] 26)).heap.size := by simp
    have gw : w.heap.size + 1 < w4.heap.size := js
    have bs : w.heap.size + 1 < (w4.alloc (.cells #[.int .i64 m, .bool true, .int .u32 A, .int .i64 N, .int .i64 0, .int .i64 0] 26)).heap.size := Nat.lt_trans gw gs
    clear ordA
    clear h54 vg vb hb4 v0 v1 v2 v3 vs1 vs2 vn1 vn2 vn3 vn4 QV j0 j1 j2 j3 js jt jz
    generalize w4.alloc (.cells #[.int .i64 m, .bool true, .int .u32 A, .int .i64 N, .int .i64 0, .int .i64 0] 26) = w6 at *
    generalize w4.heap.size = gx at *
    obtain ⟨r0, r1, r2, r3, r4, r5, f0, f1, f2, f3, f4, f5⟩ := rc_all HG
    go_wp2_with (first | (go_at_call 33; refine (HL.out _ gx HX QW.out gw).mono ?_; rintro e w7 ⟨rfl, hx7, hb7⟩; have hg7 := (hb7.block w.heap.size (by omega)).trans HG; have B7 : Below w.heap.size w w7 := B6.trans (hb7.mono (by omega)); clear r0 r1 r2 r3 r4 r5 f0 f1 f2 f3 f4 f5; obtain ⟨r0, r1, r2, r3, r4, r5, f0, f1, f2, f3, f4, f5⟩ := rc_all hg7; obtain ⟨x0, x1, x2, x3, x4, x5, y0, y1, y2, y3, y4, y5⟩ := rc_all hx7) | (go_at_call 10; refine (hM _).mono ?_; rintro e w8 ⟨rfl, hb8⟩; have hg8 := be_keep hb8 hg7; have hx8 := be_keep hb8 hx7; have B8 : Below w.heap.size w w8 := be_go hb8 B7 (Nat.le_refl _); clear r0 r1 r2 r3 r4 r5 f0 f1 f2 f3 f4 f5 x0 x1 x2 x3 x4 x5 y0 y1 y2 y3 y4 y5; obtain ⟨r0, r1, r2, r3, r4, r5, f0, f1, f2, f3, f4, f5⟩ := rc_all hg8; obtain ⟨x0, x1, x2, x3, x4, x5, y0, y1, y2, y3, y4, y5⟩ := rc_all hx8))
    exact bodyPost_ret (results_ct rfl _ _ w.heap.size 26 _ (0, 0) _ rfl (set6 hg8) Tryz.underlying26 rfl rfl) rfl ⟨rfl, set6_below B8 (Nat.le_refl _)⟩
  · have _t := ordB
    have HX : (((((((w4.setCell ⟨w5.heap.size, 0, none⟩ (.int .i64 m)).setCell ⟨w5.heap.size, 1, none⟩ (.bool true)).setCell ⟨w5.heap.size, 2, none⟩ (.int .u32 A)).setCell ⟨w5.heap.size, 3, none⟩ (.int .i64 N)).setCell ⟨w5.heap.size, 4, none⟩ (.int .i64 0)).setCell ⟨w5.heap.size, 5, none⟩ (.int .i64 0))).heap[w5.heap.size]? = some (ruleCells m true A N 0 0) := set6 hgx0
    have HG : (((((((w4.setCell ⟨w5.heap.size, 0, none⟩ (.int .i64 m)).setCell ⟨w5.heap.size, 1, none⟩ (.bool true)).setCell ⟨w5.heap.size, 2, none⟩ (.int .u32 A)).setCell ⟨w5.heap.size, 3, none⟩ (.int .i64 N)).setCell ⟨w5.heap.size, 4, none⟩ (.int .i64 0)).setCell ⟨w5.heap.size, 5, none⟩ (.int .i64 0))).heap[w.heap.size]? = some (ruleCells 0 false 0 0 0 0) := (set6_far (by omega)).trans (be_keep h54 vg)
    have QW := Aside0.mk (fun (j : Nat) (s : ByteArray) (hj : xs[j]? = some s) => (show (((((((w4.setCell ⟨w5.heap.size, 0, none⟩ (.int .i64 m)).setCell ⟨w5.heap.size, 1, none⟩ (.bool true)).setCell ⟨w5.heap.size, 2, none⟩ (.int .u32 A)).setCell ⟨w5.heap.size, 3, none⟩ (.int .i64 N)).setCell ⟨w5.heap.size, 4, none⟩ (.int .i64 0)).setCell ⟨w5.heap.size, 5, none⟩ (.int .i64 0))).cell? ⟨w.heap.size + 1, j, none⟩ = some (.string s) from (World.cell?_of_block (set6_far (by omega))).trans (be_cell h54 (QV.out j s hj))))
    have B6 : Below w.heap.size w (((((((w4.setCell ⟨w5.heap.size, 0, none⟩ (.int .i64 m)).setCell ⟨w5.heap.size, 1, none⟩ (.bool true)).setCell ⟨w5.heap.size, 2, none⟩ (.int .u32 A)).setCell ⟨w5.heap.size, 3, none⟩ (.int .i64 N)).setCell ⟨w5.heap.size, 4, none⟩ (.int .i64 0)).setCell ⟨w5.heap.size, 5, none⟩ (.int .i64 0))) := set6_below (be_go h54 vb (Nat.le_refl _)) (by omega)
    have gs : w5.heap.size < (((((((w4.setCell ⟨w5.heap.size, 0, none⟩ (.int .i64 m)).setCell ⟨w5.heap.size, 1, none⟩ (.bool true)).setCell ⟨w5.heap.size, 2, none⟩ (.int .u32 A)).setCell ⟨w5.heap.size, 3, none⟩ (.int .i64 N)).setCell ⟨w5.heap.size, 4, none⟩ (.int .i64 0)).setCell ⟨w5.heap.size, 5, none⟩ (.int .i64 0))).heap.size := by have q := blk_lt hgx0; simpa [World.setCell] using q
    have gw : w.heap.size + 1 < w5.heap.size := vs1
    have bs : w.heap.size + 1 < (((((((w4.setCell ⟨w5.heap.size, 0, none⟩ (.int .i64 m)).setCell ⟨w5.heap.size, 1, none⟩ (.bool true)).setCell ⟨w5.heap.size, 2, none⟩ (.int .u32 A)).setCell ⟨w5.heap.size, 3, none⟩ (.int .i64 N)).setCell ⟨w5.heap.size, 4, none⟩ (.int .i64 0)).setCell ⟨w5.heap.size, 5, none⟩ (.int .i64 0))).heap.size := Nat.lt_trans gw gs
    clear ordB hgx0 x0 x1 x2 x3 x4 x5 fx0 fx1 fx2 fx3 fx4 fx5
    clear h54 vg vb hb4 v0 v1 v2 v3 vs1 vs2 vn1 vn2 vn3 vn4 QV j0 j1 j2 j3 js jt jz
    generalize ((((((w4.setCell ⟨w5.heap.size, 0, none⟩ (.int .i64 m)).setCell ⟨w5.heap.size, 1, none⟩ (.bool true)).setCell ⟨w5.heap.size, 2, none⟩ (.int .u32 A)).setCell ⟨w5.heap.size, 3, none⟩ (.int .i64 N)).setCell ⟨w5.heap.size, 4, none⟩ (.int .i64 0)).setCell ⟨w5.heap.size, 5, none⟩ (.int .i64 0)) = w6 at *
    generalize w5.heap.size = gx at *
    obtain ⟨r0, r1, r2, r3, r4, r5, f0, f1, f2, f3, f4, f5⟩ := rc_all HG
    go_wp2_with (first | (go_at_call 33; refine (HL.out _ gx HX QW.out gw).mono ?_; rintro e w7 ⟨rfl, hx7, hb7⟩; have hg7 := (hb7.block w.heap.size (by omega)).trans HG; have B7 : Below w.heap.size w w7 := B6.trans (hb7.mono (by omega)); clear r0 r1 r2 r3 r4 r5 f0 f1 f2 f3 f4 f5; obtain ⟨r0, r1, r2, r3, r4, r5, f0, f1, f2, f3, f4, f5⟩ := rc_all hg7; obtain ⟨x0, x1, x2, x3, x4, x5, y0, y1, y2, y3, y4, y5⟩ := rc_all hx7) | (go_at_call 10; refine (hM _).mono ?_; rintro e w8 ⟨rfl, hb8⟩; have hg8 := be_keep hb8 hg7; have hx8 := be_keep hb8 hx7; have B8 : Below w.heap.size w w8 := be_go hb8 B7 (Nat.le_refl _); clear r0 r1 r2 r3 r4 r5 f0 f1 f2 f3 f4 f5 x0 x1 x2 x3 x4 x5 y0 y1 y2 y3 y4 y5; obtain ⟨r0, r1, r2, r3, r4, r5, f0, f1, f2, f3, f4, f5⟩ := rc_all hg8; obtain ⟨x0, x1, x2, x3, x4, x5, y0, y1, y2, y3, y4, y5⟩ := rc_all hx8))
    exact bodyPost_ret (results_ct rfl _ _ w.heap.size 26 _ (0, 0) _ rfl (set6 hg8) Tryz.underlying26 rfl rfl) rfl ⟨rfl, set6_below B8 (Nat.le_refl _)⟩
set_option maxRecDepth 20000 in
set_option maxHeartbeats 4000000 in
theorem parse_mn_false (a0 : ByteArray) (xs : List ByteArray) (w : World) (s0 s1 s2 : ByteArray) (m : Int) (hx0 : xs[0]? = some s0) (hx1 : xs[1]? = some s1) (hx2 : xs[2]? = some s2)
    (hS : ∀ W : World, Below w.heap.size w W → Calls Tryz.prog 30 #[.string a0, .string ⟨#[32]⟩] W fun e w' => e = .returned (.slice (some ⟨W.heap.size, 0, none⟩) xs.length xs.length) ∧ Words W w' xs) (hl : decide ((xs.length : Int) < 3) = false)
    (hn : plist_number.f s0 = some m) (hm : (m == 0) = false) (hs1 : (s1.toList == [112, 101, 114, 109, 105, 116]) = false) (hs3 : (s1.toList == [100, 101, 110, 121]) = true) (A N : Int)
    (hA : ∀ W : World, Below w.heap.size w W → Calls Tryz.prog 32 #[.string s2] W fun e w' => e = .returned (.tuple #[.agg #[.int .u32 A, .int .i64 N], .int .i64 0]) ∧ Below W.heap.size W w') (ge le : Int) (hx3 : ¬ (xs.length = 3)) (hL : ∀ (W : World) (gx : Nat), W.heap[gx]? = some (ruleCells m false A N 0 0) → (∀ (j : Nat) (s : ByteArray), xs[j]? = some s → W.cell? ⟨w.heap.size + 1, j, none⟩ = some (.string s)) → w.heap.size + 1 < gx →
      Calls Tryz.prog 33 #[.pointer (some ⟨gx, 0, none⟩), .slice (some ⟨w.heap.size + 1, 3, none⟩) (xs.length - 3) (xs.length - 3)] W fun e w' => LimPost gx m false A N ge le true W e w') (hM : ∀ W : World, Calls Tryz.prog 10 #[.agg #[.int .i64 m, .bool false, .int .u32 A, .int .i64 N, .int .i64 ge, .int .i64 le]] W fun e w' => e = .returned (.bool false) ∧ Below W.heap.size W w') :
    Calls Tryz.prog 8 #[.string a0] w fun e w' => e = .returned (.tuple #[.agg #[.int .i64 0, .bool false, .int .u32 0, .int .i64 0, .int .i64 0, .int .i64 0], .int .i64 1]) ∧ Below w.heap.size w w' := by
  have h0 : 0 < (xs.length : Int) := by simp at hl; omega
  have h1 : 1 < (xs.length : Int) := by simp at hl; omega
  have h2 : 0 < xs.length := by omega
  have h3 : 1 < xs.length := by omega
  have h4 : ¬ (xs.length : Int) < 3 := by simp at hl; omega
  have h5 : 2 < (xs.length : Int) := by simp at hl; omega
  have h6 : 2 < xs.length := by omega
  have hc := fun W => plist_number.calls s0 m W hn
  clear hn
  have h3z : (3 : Int) ≤ (xs.length : Int) := by simp at hl; omega
  have HL := Aside0.mk hL
  clear hL
  go_enter Tryz.func8, Tryz.ntmps8
  go_wp2_with (first | (go_at_call 30; refine (hS _ (be_al _ (Below.refl _ _) (Nat.le_refl _))).mono ?_; rintro e w' ⟨rfl, hb, qs, qw⟩; replace qs : w.heap.size + 1 < w'.heap.size := (by simpa using qs); have q0 : w'.cell? ⟨w.heap.size + 1, 0, none⟩ = some (.string s0) := (by simpa using qw 0 s0 hx0); have q1 : w'.cell? ⟨w.heap.size + 1, 1, none⟩ = some (.string s1) := (by simpa using qw 1 s1 hx1); have q2 : w'.cell? ⟨w.heap.size + 1, 2, none⟩ = some (.string s2) := (by simpa using qw 2 s2 hx2); have hg := be_keep hb (al_mine w 0 false 0 0 0 0); have QW := Aside0.mk (show ∀ (j : Nat) (s : ByteArray), xs[j]? = some s → w'.cell? ⟨w.heap.size + 1, j, none⟩ = some (.string s) from fun j s hj => by simpa using qw j s hj); clear qw) | (go_at_call 31; refine (hc _).mono ?_; rintro e w2 ⟨rfl, hb2⟩; have z0 := be_cell hb2 q0; have z1 := be_cell hb2 q1; have z2 := be_cell hb2 q2; have hg2 := be_keep hb2 hg; obtain ⟨r0, r1, r2, r3, r4, r5, f0, f1, f2, f3, f4, f5⟩ := rc_all hg2) | (go_at_call 32; refine (hA _ (be_go hb2 (be_go hb (be_al _ (Below.refl _ _) (Nat.le_refl _)) (Nat.le_refl _)) (Nat.le_refl _))).mono ?_; rintro e w3 ⟨rfl, hb3⟩; have hg3 := be_keep hb3 hg2))
  all_goals have v2 : (w3.alloc (.cells #[.int .u32 A, .int .i64 N] 24)).cell? ⟨w3.heap.size, 0, none⟩ = some (.int .u32 A) := (al_new rfl).trans rfl
  all_goals have v3 : (w3.alloc (.cells #[.int .u32 A, .int .i64 N] 24)).cell? ⟨w3.heap.size, 1, none⟩ = some (.int .i64 N) := (al_new rfl).trans rfl
  all_goals have y0 := be_cell hb3 z0
  all_goals have y1 := be_cell hb3 z1
  all_goals have v0 := (World.cell?_alloc_some w3 _ (.cells #[.int .u32 A, .int .i64 N] 24) (by rw [y0]; rfl)).trans y0
  all_goals have v1 := (World.cell?_alloc_some w3 _ (.cells #[.int .u32 A, .int .i64 N] 24) (by rw [y1]; rfl)).trans y1
  all_goals have vg := al_keep (.cells #[.int .u32 A, .int .i64 N] 24) hg3
  all_goals have vb : Below w.heap.size w (w3.alloc (.cells #[.int .u32 A, .int .i64 N] 24)) := by (repeat with_reducible first | exact Below.refl _ _ | apply Below.drew | refine be_al _ ?_ (Nat.le_refl _) | refine be_set _ _ ?_ (Nat.le_refl _) | refine be_go hb3 ?_ (Nat.le_refl _) | refine be_go hb2 ?_ (Nat.le_refl _) | refine be_go hb ?_ (Nat.le_refl _))
  all_goals have vq : Below w'.heap.size w' (w3.alloc (.cells #[.int .u32 A, .int .i64 N] 24)) := ((hb2.trans (hb3.mono hb2.size)).alloc (Nat.le_trans hb2.size hb3.size) _)
  all_goals have vs1 : w.heap.size + 1 < (w3.alloc (.cells #[.int .u32 A, .int .i64 N] 24)).heap.size := Nat.lt_of_lt_of_le qs vq.size
  all_goals have vs2 : w3.heap.size < (w3.alloc (.cells #[.int .u32 A, .int .i64 N] 24)).heap.size := by simp
  all_goals have QV := Aside0.mk (fun j s hj => be_cell vq (QW.out j s hj))
  all_goals clear hb hb2 hb3 z0 z1 z2 y0 y1 hg hg2 hg3 q0 q1 q2 r0 r1 r2 r3 r4 r5 f0 f1 f2 f3 f4 f5 QW vq
  all_goals generalize w3.alloc (.cells #[.int .u32 A, .int .i64 N] 24) = w5 at *
  all_goals have vn1 : w.heap.size + 1 ≠ w5.heap.size := Nat.ne_of_lt vs1
  all_goals have vn2 : w5.heap.size ≠ w.heap.size + 1 := vn1.symm
  all_goals have vn3 : w3.heap.size ≠ w5.heap.size := Nat.ne_of_lt vs2
  all_goals have vn4 : w5.heap.size ≠ w3.heap.size := vn3.symm
  all_goals go_region_held3 (fun W => W.cell? ⟨w.heap.size + 1, 0, none⟩ = some (.string s0) ∧ W.cell? ⟨w.heap.size + 1, 1, none⟩ = some (.string s1) ∧ W.cell? ⟨w3.heap.size, 0, none⟩ = some (.int .u32 A) ∧ W.cell? ⟨w3.heap.size, 1, none⟩ = some (.int .i64 N)) (go_keep) (first | (go_at_call 31; refine (hc _).mono ?_; rintro e w4 ⟨rfl, hb4⟩; (first | (have ordA : True := trivial; have h54 : Below w5.heap.size w5 w4 := ((Below.refl _ _).drew).trans hb4) | (have ordB : True := trivial; have h54 : Below w5.heap.size w5 w4 := (((Below.refl _ _).drew).alloc (Nat.le_refl _) _).trans (hb4.mono (by simp)); have hgx0 := (hb4.block w5.heap.size (by simp)).trans (al_mine w5.drew 0 false 0 0 0 0); obtain ⟨x0, x1, x2, x3, x4, x5, fx0, fx1, fx2, fx3, fx4, fx5⟩ := rc_all hgx0)); have j0 := be_cell h54 v0; have j1 := be_cell h54 v1; have j2 := be_cell h54 v2; have j3 := be_cell h54 v3; have js := Nat.lt_of_lt_of_le vs1 h54.size; have jt := Nat.lt_of_lt_of_le vs2 h54.size; have jz := h54.size))
  · have _t := ordA
    have HX : (w4.alloc (.cells #[.int .i64 m, .bool false, .int .u32 A, .int .i64 N, .int .i64 0, .int .i64 0] 26)).heap[w4.heap.size]? = some (ruleCells m false A N 0 0) := al_mine w4 m false A N 0 0
    have HG : (w4.alloc (.cells #[.int .i64 m, .bool false, .int .u32 A, .int .i64 N, .int .i64 0, .int .i64 0] 26)).heap[w.heap.size]? = some (ruleCells 0 false 0 0 0 0) := al_keep _ (be_keep h54 vg)
    have QW := Aside0.mk (fun (j : Nat) (s : ByteArray) (hj : xs[j]? = some s) => (show (w4.alloc (.cells #[.int .i64 m, .bool false, .int .u32 A, .int .i64 N, .int .i64 0, .int .i64 0] 26)).cell? ⟨w.heap.size + 1, j, none⟩ = some (.string s) from (World.cell?_alloc_lt w4 _ ⟨w.heap.size + 1, j, none⟩ js).trans (be_cell h54 (QV.out j s hj))))
    have B6 : Below w.heap.size w (w4.alloc (.cells #[.int .i64 m, .bool false, .int .u32 A, .int .i64 N, .int .i64 0, .int .i64 0] 26)) := be_al _ (be_go h54 vb (Nat.le_refl _)) (Nat.le_refl _)
    have gs : w4.heap.size < (w4.alloc (.cells #[.int .i64 m, .bool false, .int .u32 A, .int .i64 N, .int .i64 0, .int .i64 0] 26)).heap.size := by simp
    have gw : w.heap.size + 1 < w4.heap.size := js
    have bs : w.heap.size + 1 < (w4.alloc (.cells #[.int .i64 m, .bool false, .int .u32 A, .int .i64 N, .int .i64 0, .int .i64 0] 26)).heap.size := Nat.lt_trans gw gs
    clear ordA
    clear h54 vg vb hb4 v0 v1 v2 v3 vs1 vs2 vn1 vn2 vn3 vn4 QV j0 j1 j2 j3 js jt jz
    generalize w4.alloc (.cells #[.int .i64 m, .bool false, .int .u32 A, .int .i64 N, .int .i64 0, .int .i64 0] 26) = w6 at *
    generalize w4.heap.size = gx at *
    obtain ⟨r0, r1, r2, r3, r4, r5, f0, f1, f2, f3, f4, f5⟩ := rc_all HG
    go_wp2_with (first | (go_at_call 33; refine (HL.out _ gx HX QW.out gw).mono ?_; rintro e w7 ⟨rfl, hx7, hb7⟩; have hg7 := (hb7.block w.heap.size (by omega)).trans HG; have B7 : Below w.heap.size w w7 := B6.trans (hb7.mono (by omega)); clear r0 r1 r2 r3 r4 r5 f0 f1 f2 f3 f4 f5; obtain ⟨r0, r1, r2, r3, r4, r5, f0, f1, f2, f3, f4, f5⟩ := rc_all hg7; obtain ⟨x0, x1, x2, x3, x4, x5, y0, y1, y2, y3, y4, y5⟩ := rc_all hx7) | (go_at_call 10; refine (hM _).mono ?_; rintro e w8 ⟨rfl, hb8⟩; have hg8 := be_keep hb8 hg7; have hx8 := be_keep hb8 hx7; have B8 : Below w.heap.size w w8 := be_go hb8 B7 (Nat.le_refl _); clear r0 r1 r2 r3 r4 r5 f0 f1 f2 f3 f4 f5 x0 x1 x2 x3 x4 x5 y0 y1 y2 y3 y4 y5; obtain ⟨r0, r1, r2, r3, r4, r5, f0, f1, f2, f3, f4, f5⟩ := rc_all hg8; obtain ⟨x0, x1, x2, x3, x4, x5, y0, y1, y2, y3, y4, y5⟩ := rc_all hx8))
    exact bodyPost_ret (results_ct rfl _ _ w.heap.size 26 _ (0, 0) _ rfl (set6 hg8) Tryz.underlying26 rfl rfl) rfl ⟨rfl, set6_below B8 (Nat.le_refl _)⟩
  · have _t := ordB
    have HX : (((((((w4.setCell ⟨w5.heap.size, 0, none⟩ (.int .i64 m)).setCell ⟨w5.heap.size, 1, none⟩ (.bool false)).setCell ⟨w5.heap.size, 2, none⟩ (.int .u32 A)).setCell ⟨w5.heap.size, 3, none⟩ (.int .i64 N)).setCell ⟨w5.heap.size, 4, none⟩ (.int .i64 0)).setCell ⟨w5.heap.size, 5, none⟩ (.int .i64 0))).heap[w5.heap.size]? = some (ruleCells m false A N 0 0) := set6 hgx0
    have HG : (((((((w4.setCell ⟨w5.heap.size, 0, none⟩ (.int .i64 m)).setCell ⟨w5.heap.size, 1, none⟩ (.bool false)).setCell ⟨w5.heap.size, 2, none⟩ (.int .u32 A)).setCell ⟨w5.heap.size, 3, none⟩ (.int .i64 N)).setCell ⟨w5.heap.size, 4, none⟩ (.int .i64 0)).setCell ⟨w5.heap.size, 5, none⟩ (.int .i64 0))).heap[w.heap.size]? = some (ruleCells 0 false 0 0 0 0) := (set6_far (by omega)).trans (be_keep h54 vg)
    have QW := Aside0.mk (fun (j : Nat) (s : ByteArray) (hj : xs[j]? = some s) => (show (((((((w4.setCell ⟨w5.heap.size, 0, none⟩ (.int .i64 m)).setCell ⟨w5.heap.size, 1, none⟩ (.bool false)).setCell ⟨w5.heap.size, 2, none⟩ (.int .u32 A)).setCell ⟨w5.heap.size, 3, none⟩ (.int .i64 N)).setCell ⟨w5.heap.size, 4, none⟩ (.int .i64 0)).setCell ⟨w5.heap.size, 5, none⟩ (.int .i64 0))).cell? ⟨w.heap.size + 1, j, none⟩ = some (.string s) from (World.cell?_of_block (set6_far (by omega))).trans (be_cell h54 (QV.out j s hj))))
    have B6 : Below w.heap.size w (((((((w4.setCell ⟨w5.heap.size, 0, none⟩ (.int .i64 m)).setCell ⟨w5.heap.size, 1, none⟩ (.bool false)).setCell ⟨w5.heap.size, 2, none⟩ (.int .u32 A)).setCell ⟨w5.heap.size, 3, none⟩ (.int .i64 N)).setCell ⟨w5.heap.size, 4, none⟩ (.int .i64 0)).setCell ⟨w5.heap.size, 5, none⟩ (.int .i64 0))) := set6_below (be_go h54 vb (Nat.le_refl _)) (by omega)
    have gs : w5.heap.size < (((((((w4.setCell ⟨w5.heap.size, 0, none⟩ (.int .i64 m)).setCell ⟨w5.heap.size, 1, none⟩ (.bool false)).setCell ⟨w5.heap.size, 2, none⟩ (.int .u32 A)).setCell ⟨w5.heap.size, 3, none⟩ (.int .i64 N)).setCell ⟨w5.heap.size, 4, none⟩ (.int .i64 0)).setCell ⟨w5.heap.size, 5, none⟩ (.int .i64 0))).heap.size := by have q := blk_lt hgx0; simpa [World.setCell] using q
    have gw : w.heap.size + 1 < w5.heap.size := vs1
    have bs : w.heap.size + 1 < (((((((w4.setCell ⟨w5.heap.size, 0, none⟩ (.int .i64 m)).setCell ⟨w5.heap.size, 1, none⟩ (.bool false)).setCell ⟨w5.heap.size, 2, none⟩ (.int .u32 A)).setCell ⟨w5.heap.size, 3, none⟩ (.int .i64 N)).setCell ⟨w5.heap.size, 4, none⟩ (.int .i64 0)).setCell ⟨w5.heap.size, 5, none⟩ (.int .i64 0))).heap.size := Nat.lt_trans gw gs
    clear ordB hgx0 x0 x1 x2 x3 x4 x5 fx0 fx1 fx2 fx3 fx4 fx5
    clear h54 vg vb hb4 v0 v1 v2 v3 vs1 vs2 vn1 vn2 vn3 vn4 QV j0 j1 j2 j3 js jt jz
    generalize ((((((w4.setCell ⟨w5.heap.size, 0, none⟩ (.int .i64 m)).setCell ⟨w5.heap.size, 1, none⟩ (.bool false)).setCell ⟨w5.heap.size, 2, none⟩ (.int .u32 A)).setCell ⟨w5.heap.size, 3, none⟩ (.int .i64 N)).setCell ⟨w5.heap.size, 4, none⟩ (.int .i64 0)).setCell ⟨w5.heap.size, 5, none⟩ (.int .i64 0)) = w6 at *
    generalize w5.heap.size = gx at *
    obtain ⟨r0, r1, r2, r3, r4, r5, f0, f1, f2, f3, f4, f5⟩ := rc_all HG
    go_wp2_with (first | (go_at_call 33; refine (HL.out _ gx HX QW.out gw).mono ?_; rintro e w7 ⟨rfl, hx7, hb7⟩; have hg7 := (hb7.block w.heap.size (by omega)).trans HG; have B7 : Below w.heap.size w w7 := B6.trans (hb7.mono (by omega)); clear r0 r1 r2 r3 r4 r5 f0 f1 f2 f3 f4 f5; obtain ⟨r0, r1, r2, r3, r4, r5, f0, f1, f2, f3, f4, f5⟩ := rc_all hg7; obtain ⟨x0, x1, x2, x3, x4, x5, y0, y1, y2, y3, y4, y5⟩ := rc_all hx7) | (go_at_call 10; refine (hM _).mono ?_; rintro e w8 ⟨rfl, hb8⟩; have hg8 := be_keep hb8 hg7; have hx8 := be_keep hb8 hx7; have B8 : Below w.heap.size w w8 := be_go hb8 B7 (Nat.le_refl _); clear r0 r1 r2 r3 r4 r5 f0 f1 f2 f3 f4 f5 x0 x1 x2 x3 x4 x5 y0 y1 y2 y3 y4 y5; obtain ⟨r0, r1, r2, r3, r4, r5, f0, f1, f2, f3, f4, f5⟩ := rc_all hg8; obtain ⟨x0, x1, x2, x3, x4, x5, y0, y1, y2, y3, y4, y5⟩ := rc_all hx8))
    exact bodyPost_ret (results_ct rfl _ _ w.heap.size 26 _ (0, 0) _ rfl (set6 hg8) Tryz.underlying26 rfl rfl) rfl ⟨rfl, set6_below B8 (Nat.le_refl _)⟩
set_option maxRecDepth 20000 in
set_option maxHeartbeats 4000000 in
theorem parse_on_true (a0 : ByteArray) (xs : List ByteArray) (w : World) (s0 s1 s2 : ByteArray) (m : Int) (hx0 : xs[0]? = some s0) (hx1 : xs[1]? = some s1) (hx2 : xs[2]? = some s2)
    (hS : ∀ W : World, Below w.heap.size w W → Calls Tryz.prog 30 #[.string a0, .string ⟨#[32]⟩] W fun e w' => e = .returned (.slice (some ⟨W.heap.size, 0, none⟩) xs.length xs.length) ∧ Words W w' xs) (hl : decide ((xs.length : Int) < 3) = false)
    (hn : plist_number.f s0 = some m) (hm : (m == 0) = false) (hs1 : (s1.toList == [112, 101, 114, 109, 105, 116]) = true)  (A N : Int)
    (hA : ∀ W : World, Below w.heap.size w W → Calls Tryz.prog 32 #[.string s2] W fun e w' => e = .returned (.tuple #[.agg #[.int .u32 A, .int .i64 N], .int .i64 0]) ∧ Below W.heap.size W w') (ge le : Int) (hx3 : ¬ (xs.length = 3)) (hL : ∀ (W : World) (gx : Nat), W.heap[gx]? = some (ruleCells m true A N 0 0) → (∀ (j : Nat) (s : ByteArray), xs[j]? = some s → W.cell? ⟨w.heap.size + 1, j, none⟩ = some (.string s)) → w.heap.size + 1 < gx →
      Calls Tryz.prog 33 #[.pointer (some ⟨gx, 0, none⟩), .slice (some ⟨w.heap.size + 1, 3, none⟩) (xs.length - 3) (xs.length - 3)] W fun e w' => LimPost gx m true A N ge le true W e w') (hM : ∀ W : World, Calls Tryz.prog 10 #[.agg #[.int .i64 m, .bool true, .int .u32 A, .int .i64 N, .int .i64 ge, .int .i64 le]] W fun e w' => e = .returned (.bool true) ∧ Below W.heap.size W w') :
    Calls Tryz.prog 8 #[.string a0] w fun e w' => e = .returned (.tuple #[.agg #[.int .i64 m, .bool true, .int .u32 A, .int .i64 N, .int .i64 ge, .int .i64 le], .int .i64 0]) ∧ Below w.heap.size w w' := by
  have h0 : 0 < (xs.length : Int) := by simp at hl; omega
  have h1 : 1 < (xs.length : Int) := by simp at hl; omega
  have h2 : 0 < xs.length := by omega
  have h3 : 1 < xs.length := by omega
  have h4 : ¬ (xs.length : Int) < 3 := by simp at hl; omega
  have h5 : 2 < (xs.length : Int) := by simp at hl; omega
  have h6 : 2 < xs.length := by omega
  have hc := fun W => plist_number.calls s0 m W hn
  clear hn
  have h3z : (3 : Int) ≤ (xs.length : Int) := by simp at hl; omega
  have HL := Aside0.mk hL
  clear hL
  go_enter Tryz.func8, Tryz.ntmps8
  go_wp2_with (first | (go_at_call 30; refine (hS _ (be_al _ (Below.refl _ _) (Nat.le_refl _))).mono ?_; rintro e w' ⟨rfl, hb, qs, qw⟩; replace qs : w.heap.size + 1 < w'.heap.size := (by simpa using qs); have q0 : w'.cell? ⟨w.heap.size + 1, 0, none⟩ = some (.string s0) := (by simpa using qw 0 s0 hx0); have q1 : w'.cell? ⟨w.heap.size + 1, 1, none⟩ = some (.string s1) := (by simpa using qw 1 s1 hx1); have q2 : w'.cell? ⟨w.heap.size + 1, 2, none⟩ = some (.string s2) := (by simpa using qw 2 s2 hx2); have hg := be_keep hb (al_mine w 0 false 0 0 0 0); have QW := Aside0.mk (show ∀ (j : Nat) (s : ByteArray), xs[j]? = some s → w'.cell? ⟨w.heap.size + 1, j, none⟩ = some (.string s) from fun j s hj => by simpa using qw j s hj); clear qw) | (go_at_call 31; refine (hc _).mono ?_; rintro e w2 ⟨rfl, hb2⟩; have z0 := be_cell hb2 q0; have z1 := be_cell hb2 q1; have z2 := be_cell hb2 q2; have hg2 := be_keep hb2 hg; obtain ⟨r0, r1, r2, r3, r4, r5, f0, f1, f2, f3, f4, f5⟩ := rc_all hg2) | (go_at_call 32; refine (hA _ (be_go hb2 (be_go hb (be_al _ (Below.refl _ _) (Nat.le_refl _)) (Nat.le_refl _)) (Nat.le_refl _))).mono ?_; rintro e w3 ⟨rfl, hb3⟩; have hg3 := be_keep hb3 hg2))
  all_goals have v2 : (w3.alloc (.cells #[.int .u32 A, .int .i64 N] 24)).cell? ⟨w3.heap.size, 0, none⟩ = some (.int .u32 A) := (al_new rfl).trans rfl
  all_goals have v3 : (w3.alloc (.cells #[.int .u32 A, .int .i64 N] 24)).cell? ⟨w3.heap.size, 1, none⟩ = some (.int .i64 N) := (al_new rfl).trans rfl
  all_goals have y0 := be_cell hb3 z0
  all_goals have y1 := be_cell hb3 z1
  all_goals have v0 := (World.cell?_alloc_some w3 _ (.cells #[.int .u32 A, .int .i64 N] 24) (by rw [y0]; rfl)).trans y0
  all_goals have v1 := (World.cell?_alloc_some w3 _ (.cells #[.int .u32 A, .int .i64 N] 24) (by rw [y1]; rfl)).trans y1
  all_goals have vg := al_keep (.cells #[.int .u32 A, .int .i64 N] 24) hg3
  all_goals have vb : Below w.heap.size w (w3.alloc (.cells #[.int .u32 A, .int .i64 N] 24)) := by (repeat with_reducible first | exact Below.refl _ _ | apply Below.drew | refine be_al _ ?_ (Nat.le_refl _) | refine be_set _ _ ?_ (Nat.le_refl _) | refine be_go hb3 ?_ (Nat.le_refl _) | refine be_go hb2 ?_ (Nat.le_refl _) | refine be_go hb ?_ (Nat.le_refl _))
  all_goals have vq : Below w'.heap.size w' (w3.alloc (.cells #[.int .u32 A, .int .i64 N] 24)) := ((hb2.trans (hb3.mono hb2.size)).alloc (Nat.le_trans hb2.size hb3.size) _)
  all_goals have vs1 : w.heap.size + 1 < (w3.alloc (.cells #[.int .u32 A, .int .i64 N] 24)).heap.size := Nat.lt_of_lt_of_le qs vq.size
  all_goals have vs2 : w3.heap.size < (w3.alloc (.cells #[.int .u32 A, .int .i64 N] 24)).heap.size := by simp
  all_goals have QV := Aside0.mk (fun j s hj => be_cell vq (QW.out j s hj))
  all_goals clear hb hb2 hb3 z0 z1 z2 y0 y1 hg hg2 hg3 q0 q1 q2 r0 r1 r2 r3 r4 r5 f0 f1 f2 f3 f4 f5 QW vq
  all_goals generalize w3.alloc (.cells #[.int .u32 A, .int .i64 N] 24) = w5 at *
  all_goals have vn1 : w.heap.size + 1 ≠ w5.heap.size := Nat.ne_of_lt vs1
  all_goals have vn2 : w5.heap.size ≠ w.heap.size + 1 := vn1.symm
  all_goals have vn3 : w3.heap.size ≠ w5.heap.size := Nat.ne_of_lt vs2
  all_goals have vn4 : w5.heap.size ≠ w3.heap.size := vn3.symm
  all_goals go_region_held3 (fun W => W.cell? ⟨w.heap.size + 1, 0, none⟩ = some (.string s0) ∧ W.cell? ⟨w.heap.size + 1, 1, none⟩ = some (.string s1) ∧ W.cell? ⟨w3.heap.size, 0, none⟩ = some (.int .u32 A) ∧ W.cell? ⟨w3.heap.size, 1, none⟩ = some (.int .i64 N)) (go_keep) (first | (go_at_call 31; refine (hc _).mono ?_; rintro e w4 ⟨rfl, hb4⟩; (first | (have ordA : True := trivial; have h54 : Below w5.heap.size w5 w4 := ((Below.refl _ _).drew).trans hb4) | (have ordB : True := trivial; have h54 : Below w5.heap.size w5 w4 := (((Below.refl _ _).drew).alloc (Nat.le_refl _) _).trans (hb4.mono (by simp)); have hgx0 := (hb4.block w5.heap.size (by simp)).trans (al_mine w5.drew 0 false 0 0 0 0); obtain ⟨x0, x1, x2, x3, x4, x5, fx0, fx1, fx2, fx3, fx4, fx5⟩ := rc_all hgx0)); have j0 := be_cell h54 v0; have j1 := be_cell h54 v1; have j2 := be_cell h54 v2; have j3 := be_cell h54 v3; have js := Nat.lt_of_lt_of_le vs1 h54.size; have jt := Nat.lt_of_lt_of_le vs2 h54.size; have jz := h54.size))
  · have _t := ordA
    have HX : (w4.alloc (.cells #[.int .i64 m, .bool true, .int .u32 A, .int .i64 N, .int .i64 0, .int .i64 0] 26)).heap[w4.heap.size]? = some (ruleCells m true A N 0 0) := al_mine w4 m true A N 0 0
    have HG : (w4.alloc (.cells #[.int .i64 m, .bool true, .int .u32 A, .int .i64 N, .int .i64 0, .int .i64 0] 26)).heap[w.heap.size]? = some (ruleCells 0 false 0 0 0 0) := al_keep _ (be_keep h54 vg)
    have QW := Aside0.mk (fun (j : Nat) (s : ByteArray) (hj : xs[j]? = some s) => (show (w4.alloc (.cells #[.int .i64 m, .bool true, .int .u32 A, .int .i64 N, .int .i64 0, .int .i64 0] 26)).cell? ⟨w.heap.size + 1, j, none⟩ = some (.string s) from (World.cell?_alloc_lt w4 _ ⟨w.heap.size + 1, j, none⟩ js).trans (be_cell h54 (QV.out j s hj))))
    have B6 : Below w.heap.size w (w4.alloc (.cells #[.int .i64 m, .bool true, .int .u32 A, .int .i64 N, .int .i64 0, .int .i64 0] 26)) := be_al _ (be_go h54 vb (Nat.le_refl _)) (Nat.le_refl _)
    have gs : w4.heap.size < (w4.alloc (.cells #[.int .i64 m, .bool true, .int .u32 A, .int .i64 N, .int .i64 0, .int .i64 0] 26)).heap.size := by simp
    have gw : w.heap.size + 1 < w4.heap.size := js
    have bs : w.heap.size + 1 < (w4.alloc (.cells #[.int .i64 m, .bool true, .int .u32 A, .int .i64 N, .int .i64 0, .int .i64 0] 26)).heap.size := Nat.lt_trans gw gs
    clear ordA
    clear h54 vg vb hb4 v0 v1 v2 v3 vs1 vs2 vn1 vn2 vn3 vn4 QV j0 j1 j2 j3 js jt jz
    generalize w4.alloc (.cells #[.int .i64 m, .bool true, .int .u32 A, .int .i64 N, .int .i64 0, .int .i64 0] 26) = w6 at *
    generalize w4.heap.size = gx at *
    obtain ⟨r0, r1, r2, r3, r4, r5, f0, f1, f2, f3, f4, f5⟩ := rc_all HG
    go_wp2_with (first | (go_at_call 33; refine (HL.out _ gx HX QW.out gw).mono ?_; rintro e w7 ⟨rfl, hx7, hb7⟩; have hg7 := (hb7.block w.heap.size (by omega)).trans HG; have B7 : Below w.heap.size w w7 := B6.trans (hb7.mono (by omega)); clear r0 r1 r2 r3 r4 r5 f0 f1 f2 f3 f4 f5; obtain ⟨r0, r1, r2, r3, r4, r5, f0, f1, f2, f3, f4, f5⟩ := rc_all hg7; obtain ⟨x0, x1, x2, x3, x4, x5, y0, y1, y2, y3, y4, y5⟩ := rc_all hx7) | (go_at_call 10; refine (hM _).mono ?_; rintro e w8 ⟨rfl, hb8⟩; have hg8 := be_keep hb8 hg7; have hx8 := be_keep hb8 hx7; have B8 : Below w.heap.size w w8 := be_go hb8 B7 (Nat.le_refl _); clear r0 r1 r2 r3 r4 r5 f0 f1 f2 f3 f4 f5 x0 x1 x2 x3 x4 x5 y0 y1 y2 y3 y4 y5; obtain ⟨r0, r1, r2, r3, r4, r5, f0, f1, f2, f3, f4, f5⟩ := rc_all hg8; obtain ⟨x0, x1, x2, x3, x4, x5, y0, y1, y2, y3, y4, y5⟩ := rc_all hx8))
    exact bodyPost_ret (results_ct rfl _ _ w.heap.size 26 _ (0, 0) _ rfl (set6 hg8) Tryz.underlying26 rfl rfl) rfl ⟨rfl, set6_below B8 (Nat.le_refl _)⟩
  · have _t := ordB
    have HX : (((((((w4.setCell ⟨w5.heap.size, 0, none⟩ (.int .i64 m)).setCell ⟨w5.heap.size, 1, none⟩ (.bool true)).setCell ⟨w5.heap.size, 2, none⟩ (.int .u32 A)).setCell ⟨w5.heap.size, 3, none⟩ (.int .i64 N)).setCell ⟨w5.heap.size, 4, none⟩ (.int .i64 0)).setCell ⟨w5.heap.size, 5, none⟩ (.int .i64 0))).heap[w5.heap.size]? = some (ruleCells m true A N 0 0) := set6 hgx0
    have HG : (((((((w4.setCell ⟨w5.heap.size, 0, none⟩ (.int .i64 m)).setCell ⟨w5.heap.size, 1, none⟩ (.bool true)).setCell ⟨w5.heap.size, 2, none⟩ (.int .u32 A)).setCell ⟨w5.heap.size, 3, none⟩ (.int .i64 N)).setCell ⟨w5.heap.size, 4, none⟩ (.int .i64 0)).setCell ⟨w5.heap.size, 5, none⟩ (.int .i64 0))).heap[w.heap.size]? = some (ruleCells 0 false 0 0 0 0) := (set6_far (by omega)).trans (be_keep h54 vg)
    have QW := Aside0.mk (fun (j : Nat) (s : ByteArray) (hj : xs[j]? = some s) => (show (((((((w4.setCell ⟨w5.heap.size, 0, none⟩ (.int .i64 m)).setCell ⟨w5.heap.size, 1, none⟩ (.bool true)).setCell ⟨w5.heap.size, 2, none⟩ (.int .u32 A)).setCell ⟨w5.heap.size, 3, none⟩ (.int .i64 N)).setCell ⟨w5.heap.size, 4, none⟩ (.int .i64 0)).setCell ⟨w5.heap.size, 5, none⟩ (.int .i64 0))).cell? ⟨w.heap.size + 1, j, none⟩ = some (.string s) from (World.cell?_of_block (set6_far (by omega))).trans (be_cell h54 (QV.out j s hj))))
    have B6 : Below w.heap.size w (((((((w4.setCell ⟨w5.heap.size, 0, none⟩ (.int .i64 m)).setCell ⟨w5.heap.size, 1, none⟩ (.bool true)).setCell ⟨w5.heap.size, 2, none⟩ (.int .u32 A)).setCell ⟨w5.heap.size, 3, none⟩ (.int .i64 N)).setCell ⟨w5.heap.size, 4, none⟩ (.int .i64 0)).setCell ⟨w5.heap.size, 5, none⟩ (.int .i64 0))) := set6_below (be_go h54 vb (Nat.le_refl _)) (by omega)
    have gs : w5.heap.size < (((((((w4.setCell ⟨w5.heap.size, 0, none⟩ (.int .i64 m)).setCell ⟨w5.heap.size, 1, none⟩ (.bool true)).setCell ⟨w5.heap.size, 2, none⟩ (.int .u32 A)).setCell ⟨w5.heap.size, 3, none⟩ (.int .i64 N)).setCell ⟨w5.heap.size, 4, none⟩ (.int .i64 0)).setCell ⟨w5.heap.size, 5, none⟩ (.int .i64 0))).heap.size := by have q := blk_lt hgx0; simpa [World.setCell] using q
    have gw : w.heap.size + 1 < w5.heap.size := vs1
    have bs : w.heap.size + 1 < (((((((w4.setCell ⟨w5.heap.size, 0, none⟩ (.int .i64 m)).setCell ⟨w5.heap.size, 1, none⟩ (.bool true)).setCell ⟨w5.heap.size, 2, none⟩ (.int .u32 A)).setCell ⟨w5.heap.size, 3, none⟩ (.int .i64 N)).setCell ⟨w5.heap.size, 4, none⟩ (.int .i64 0)).setCell ⟨w5.heap.size, 5, none⟩ (.int .i64 0))).heap.size := Nat.lt_trans gw gs
    clear ordB hgx0 x0 x1 x2 x3 x4 x5 fx0 fx1 fx2 fx3 fx4 fx5
    clear h54 vg vb hb4 v0 v1 v2 v3 vs1 vs2 vn1 vn2 vn3 vn4 QV j0 j1 j2 j3 js jt jz
    generalize ((((((w4.setCell ⟨w5.heap.size, 0, none⟩ (.int .i64 m)).setCell ⟨w5.heap.size, 1, none⟩ (.bool true)).setCell ⟨w5.heap.size, 2, none⟩ (.int .u32 A)).setCell ⟨w5.heap.size, 3, none⟩ (.int .i64 N)).setCell ⟨w5.heap.size, 4, none⟩ (.int .i64 0)).setCell ⟨w5.heap.size, 5, none⟩ (.int .i64 0)) = w6 at *
    generalize w5.heap.size = gx at *
    obtain ⟨r0, r1, r2, r3, r4, r5, f0, f1, f2, f3, f4, f5⟩ := rc_all HG
    go_wp2_with (first | (go_at_call 33; refine (HL.out _ gx HX QW.out gw).mono ?_; rintro e w7 ⟨rfl, hx7, hb7⟩; have hg7 := (hb7.block w.heap.size (by omega)).trans HG; have B7 : Below w.heap.size w w7 := B6.trans (hb7.mono (by omega)); clear r0 r1 r2 r3 r4 r5 f0 f1 f2 f3 f4 f5; obtain ⟨r0, r1, r2, r3, r4, r5, f0, f1, f2, f3, f4, f5⟩ := rc_all hg7; obtain ⟨x0, x1, x2, x3, x4, x5, y0, y1, y2, y3, y4, y5⟩ := rc_all hx7) | (go_at_call 10; refine (hM _).mono ?_; rintro e w8 ⟨rfl, hb8⟩; have hg8 := be_keep hb8 hg7; have hx8 := be_keep hb8 hx7; have B8 : Below w.heap.size w w8 := be_go hb8 B7 (Nat.le_refl _); clear r0 r1 r2 r3 r4 r5 f0 f1 f2 f3 f4 f5 x0 x1 x2 x3 x4 x5 y0 y1 y2 y3 y4 y5; obtain ⟨r0, r1, r2, r3, r4, r5, f0, f1, f2, f3, f4, f5⟩ := rc_all hg8; obtain ⟨x0, x1, x2, x3, x4, x5, y0, y1, y2, y3, y4, y5⟩ := rc_all hx8))
    exact bodyPost_ret (results_ct rfl _ _ w.heap.size 26 _ (0, 0) _ rfl (set6 hg8) Tryz.underlying26 rfl rfl) rfl ⟨rfl, set6_below B8 (Nat.le_refl _)⟩
set_option maxRecDepth 20000 in
set_option maxHeartbeats 4000000 in
theorem parse_on_false (a0 : ByteArray) (xs : List ByteArray) (w : World) (s0 s1 s2 : ByteArray) (m : Int) (hx0 : xs[0]? = some s0) (hx1 : xs[1]? = some s1) (hx2 : xs[2]? = some s2)
    (hS : ∀ W : World, Below w.heap.size w W → Calls Tryz.prog 30 #[.string a0, .string ⟨#[32]⟩] W fun e w' => e = .returned (.slice (some ⟨W.heap.size, 0, none⟩) xs.length xs.length) ∧ Words W w' xs) (hl : decide ((xs.length : Int) < 3) = false)
    (hn : plist_number.f s0 = some m) (hm : (m == 0) = false) (hs1 : (s1.toList == [112, 101, 114, 109, 105, 116]) = false) (hs3 : (s1.toList == [100, 101, 110, 121]) = true) (A N : Int)
    (hA : ∀ W : World, Below w.heap.size w W → Calls Tryz.prog 32 #[.string s2] W fun e w' => e = .returned (.tuple #[.agg #[.int .u32 A, .int .i64 N], .int .i64 0]) ∧ Below W.heap.size W w') (ge le : Int) (hx3 : ¬ (xs.length = 3)) (hL : ∀ (W : World) (gx : Nat), W.heap[gx]? = some (ruleCells m false A N 0 0) → (∀ (j : Nat) (s : ByteArray), xs[j]? = some s → W.cell? ⟨w.heap.size + 1, j, none⟩ = some (.string s)) → w.heap.size + 1 < gx →
      Calls Tryz.prog 33 #[.pointer (some ⟨gx, 0, none⟩), .slice (some ⟨w.heap.size + 1, 3, none⟩) (xs.length - 3) (xs.length - 3)] W fun e w' => LimPost gx m false A N ge le true W e w') (hM : ∀ W : World, Calls Tryz.prog 10 #[.agg #[.int .i64 m, .bool false, .int .u32 A, .int .i64 N, .int .i64 ge, .int .i64 le]] W fun e w' => e = .returned (.bool true) ∧ Below W.heap.size W w') :
    Calls Tryz.prog 8 #[.string a0] w fun e w' => e = .returned (.tuple #[.agg #[.int .i64 m, .bool false, .int .u32 A, .int .i64 N, .int .i64 ge, .int .i64 le], .int .i64 0]) ∧ Below w.heap.size w w' := by
  have h0 : 0 < (xs.length : Int) := by simp at hl; omega
  have h1 : 1 < (xs.length : Int) := by simp at hl; omega
  have h2 : 0 < xs.length := by omega
  have h3 : 1 < xs.length := by omega
  have h4 : ¬ (xs.length : Int) < 3 := by simp at hl; omega
  have h5 : 2 < (xs.length : Int) := by simp at hl; omega
  have h6 : 2 < xs.length := by omega
  have hc := fun W => plist_number.calls s0 m W hn
  clear hn
  have h3z : (3 : Int) ≤ (xs.length : Int) := by simp at hl; omega
  have HL := Aside0.mk hL
  clear hL
  go_enter Tryz.func8, Tryz.ntmps8
  go_wp2_with (first | (go_at_call 30; refine (hS _ (be_al _ (Below.refl _ _) (Nat.le_refl _))).mono ?_; rintro e w' ⟨rfl, hb, qs, qw⟩; replace qs : w.heap.size + 1 < w'.heap.size := (by simpa using qs); have q0 : w'.cell? ⟨w.heap.size + 1, 0, none⟩ = some (.string s0) := (by simpa using qw 0 s0 hx0); have q1 : w'.cell? ⟨w.heap.size + 1, 1, none⟩ = some (.string s1) := (by simpa using qw 1 s1 hx1); have q2 : w'.cell? ⟨w.heap.size + 1, 2, none⟩ = some (.string s2) := (by simpa using qw 2 s2 hx2); have hg := be_keep hb (al_mine w 0 false 0 0 0 0); have QW := Aside0.mk (show ∀ (j : Nat) (s : ByteArray), xs[j]? = some s → w'.cell? ⟨w.heap.size + 1, j, none⟩ = some (.string s) from fun j s hj => by simpa using qw j s hj); clear qw) | (go_at_call 31; refine (hc _).mono ?_; rintro e w2 ⟨rfl, hb2⟩; have z0 := be_cell hb2 q0; have z1 := be_cell hb2 q1; have z2 := be_cell hb2 q2; have hg2 := be_keep hb2 hg; obtain ⟨r0, r1, r2, r3, r4, r5, f0, f1, f2, f3, f4, f5⟩ := rc_all hg2) | (go_at_call 32; refine (hA _ (be_go hb2 (be_go hb (be_al _ (Below.refl _ _) (Nat.le_refl _)) (Nat.le_refl _)) (Nat.le_refl _))).mono ?_; rintro e w3 ⟨rfl, hb3⟩; have hg3 := be_keep hb3 hg2))
  all_goals have v2 : (w3.alloc (.cells #[.int .u32 A, .int .i64 N] 24)).cell? ⟨w3.heap.size, 0, none⟩ = some (.int .u32 A) := (al_new rfl).trans rfl
  all_goals have v3 : (w3.alloc (.cells #[.int .u32 A, .int .i64 N] 24)).cell? ⟨w3.heap.size, 1, none⟩ = some (.int .i64 N) := (al_new rfl).trans rfl
  all_goals have y0 := be_cell hb3 z0
  all_goals have y1 := be_cell hb3 z1
  all_goals have v0 := (World.cell?_alloc_some w3 _ (.cells #[.int .u32 A, .int .i64 N] 24) (by rw [y0]; rfl)).trans y0
  all_goals have v1 := (World.cell?_alloc_some w3 _ (.cells #[.int .u32 A, .int .i64 N] 24) (by rw [y1]; rfl)).trans y1
  all_goals have vg := al_keep (.cells #[.int .u32 A, .int .i64 N] 24) hg3
  all_goals have vb : Below w.heap.size w (w3.alloc (.cells #[.int .u32 A, .int .i64 N] 24)) := by (repeat with_reducible first | exact Below.refl _ _ | apply Below.drew | refine be_al _ ?_ (Nat.le_refl _) | refine be_set _ _ ?_ (Nat.le_refl _) | refine be_go hb3 ?_ (Nat.le_refl _) | refine be_go hb2 ?_ (Nat.le_refl _) | refine be_go hb ?_ (Nat.le_refl _))
  all_goals have vq : Below w'.heap.size w' (w3.alloc (.cells #[.int .u32 A, .int .i64 N] 24)) := ((hb2.trans (hb3.mono hb2.size)).alloc (Nat.le_trans hb2.size hb3.size) _)
  all_goals have vs1 : w.heap.size + 1 < (w3.alloc (.cells #[.int .u32 A, .int .i64 N] 24)).heap.size := Nat.lt_of_lt_of_le qs vq.size
  all_goals have vs2 : w3.heap.size < (w3.alloc (.cells #[.int .u32 A, .int .i64 N] 24)).heap.size := by simp
  all_goals have QV := Aside0.mk (fun j s hj => be_cell vq (QW.out j s hj))
  all_goals clear hb hb2 hb3 z0 z1 z2 y0 y1 hg hg2 hg3 q0 q1 q2 r0 r1 r2 r3 r4 r5 f0 f1 f2 f3 f4 f5 QW vq
  all_goals generalize w3.alloc (.cells #[.int .u32 A, .int .i64 N] 24) = w5 at *
  all_goals have vn1 : w.heap.size + 1 ≠ w5.heap.size := Nat.ne_of_lt vs1
  all_goals have vn2 : w5.heap.size ≠ w.heap.size + 1 := vn1.symm
  all_goals have vn3 : w3.heap.size ≠ w5.heap.size := Nat.ne_of_lt vs2
  all_goals have vn4 : w5.heap.size ≠ w3.heap.size := vn3.symm
  all_goals go_region_held3 (fun W => W.cell? ⟨w.heap.size + 1, 0, none⟩ = some (.string s0) ∧ W.cell? ⟨w.heap.size + 1, 1, none⟩ = some (.string s1) ∧ W.cell? ⟨w3.heap.size, 0, none⟩ = some (.int .u32 A) ∧ W.cell? ⟨w3.heap.size, 1, none⟩ = some (.int .i64 N)) (go_keep) (first | (go_at_call 31; refine (hc _).mono ?_; rintro e w4 ⟨rfl, hb4⟩; (first | (have ordA : True := trivial; have h54 : Below w5.heap.size w5 w4 := ((Below.refl _ _).drew).trans hb4) | (have ordB : True := trivial; have h54 : Below w5.heap.size w5 w4 := (((Below.refl _ _).drew).alloc (Nat.le_refl _) _).trans (hb4.mono (by simp)); have hgx0 := (hb4.block w5.heap.size (by simp)).trans (al_mine w5.drew 0 false 0 0 0 0); obtain ⟨x0, x1, x2, x3, x4, x5, fx0, fx1, fx2, fx3, fx4, fx5⟩ := rc_all hgx0)); have j0 := be_cell h54 v0; have j1 := be_cell h54 v1; have j2 := be_cell h54 v2; have j3 := be_cell h54 v3; have js := Nat.lt_of_lt_of_le vs1 h54.size; have jt := Nat.lt_of_lt_of_le vs2 h54.size; have jz := h54.size))
  · have _t := ordA
    have HX : (w4.alloc (.cells #[.int .i64 m, .bool false, .int .u32 A, .int .i64 N, .int .i64 0, .int .i64 0] 26)).heap[w4.heap.size]? = some (ruleCells m false A N 0 0) := al_mine w4 m false A N 0 0
    have HG : (w4.alloc (.cells #[.int .i64 m, .bool false, .int .u32 A, .int .i64 N, .int .i64 0, .int .i64 0] 26)).heap[w.heap.size]? = some (ruleCells 0 false 0 0 0 0) := al_keep _ (be_keep h54 vg)
    have QW := Aside0.mk (fun (j : Nat) (s : ByteArray) (hj : xs[j]? = some s) => (show (w4.alloc (.cells #[.int .i64 m, .bool false, .int .u32 A, .int .i64 N, .int .i64 0, .int .i64 0] 26)).cell? ⟨w.heap.size + 1, j, none⟩ = some (.string s) from (World.cell?_alloc_lt w4 _ ⟨w.heap.size + 1, j, none⟩ js).trans (be_cell h54 (QV.out j s hj))))
    have B6 : Below w.heap.size w (w4.alloc (.cells #[.int .i64 m, .bool false, .int .u32 A, .int .i64 N, .int .i64 0, .int .i64 0] 26)) := be_al _ (be_go h54 vb (Nat.le_refl _)) (Nat.le_refl _)
    have gs : w4.heap.size < (w4.alloc (.cells #[.int .i64 m, .bool false, .int .u32 A, .int .i64 N, .int .i64 0, .int .i64 0] 26)).heap.size := by simp
    have gw : w.heap.size + 1 < w4.heap.size := js
    have bs : w.heap.size + 1 < (w4.alloc (.cells #[.int .i64 m, .bool false, .int .u32 A, .int .i64 N, .int .i64 0, .int .i64 0] 26)).heap.size := Nat.lt_trans gw gs
    clear ordA
    clear h54 vg vb hb4 v0 v1 v2 v3 vs1 vs2 vn1 vn2 vn3 vn4 QV j0 j1 j2 j3 js jt jz
    generalize w4.alloc (.cells #[.int .i64 m, .bool false, .int .u32 A, .int .i64 N, .int .i64 0, .int .i64 0] 26) = w6 at *
    generalize w4.heap.size = gx at *
    obtain ⟨r0, r1, r2, r3, r4, r5, f0, f1, f2, f3, f4, f5⟩ := rc_all HG
    go_wp2_with (first | (go_at_call 33; refine (HL.out _ gx HX QW.out gw).mono ?_; rintro e w7 ⟨rfl, hx7, hb7⟩; have hg7 := (hb7.block w.heap.size (by omega)).trans HG; have B7 : Below w.heap.size w w7 := B6.trans (hb7.mono (by omega)); clear r0 r1 r2 r3 r4 r5 f0 f1 f2 f3 f4 f5; obtain ⟨r0, r1, r2, r3, r4, r5, f0, f1, f2, f3, f4, f5⟩ := rc_all hg7; obtain ⟨x0, x1, x2, x3, x4, x5, y0, y1, y2, y3, y4, y5⟩ := rc_all hx7) | (go_at_call 10; refine (hM _).mono ?_; rintro e w8 ⟨rfl, hb8⟩; have hg8 := be_keep hb8 hg7; have hx8 := be_keep hb8 hx7; have B8 : Below w.heap.size w w8 := be_go hb8 B7 (Nat.le_refl _); clear r0 r1 r2 r3 r4 r5 f0 f1 f2 f3 f4 f5 x0 x1 x2 x3 x4 x5 y0 y1 y2 y3 y4 y5; obtain ⟨r0, r1, r2, r3, r4, r5, f0, f1, f2, f3, f4, f5⟩ := rc_all hg8; obtain ⟨x0, x1, x2, x3, x4, x5, y0, y1, y2, y3, y4, y5⟩ := rc_all hx8))
    exact bodyPost_ret (results_ct rfl _ _ w.heap.size 26 _ (0, 0) _ rfl (set6 hg8) Tryz.underlying26 rfl rfl) rfl ⟨rfl, set6_below B8 (Nat.le_refl _)⟩
  · have _t := ordB
    have HX : (((((((w4.setCell ⟨w5.heap.size, 0, none⟩ (.int .i64 m)).setCell ⟨w5.heap.size, 1, none⟩ (.bool false)).setCell ⟨w5.heap.size, 2, none⟩ (.int .u32 A)).setCell ⟨w5.heap.size, 3, none⟩ (.int .i64 N)).setCell ⟨w5.heap.size, 4, none⟩ (.int .i64 0)).setCell ⟨w5.heap.size, 5, none⟩ (.int .i64 0))).heap[w5.heap.size]? = some (ruleCells m false A N 0 0) := set6 hgx0
    have HG : (((((((w4.setCell ⟨w5.heap.size, 0, none⟩ (.int .i64 m)).setCell ⟨w5.heap.size, 1, none⟩ (.bool false)).setCell ⟨w5.heap.size, 2, none⟩ (.int .u32 A)).setCell ⟨w5.heap.size, 3, none⟩ (.int .i64 N)).setCell ⟨w5.heap.size, 4, none⟩ (.int .i64 0)).setCell ⟨w5.heap.size, 5, none⟩ (.int .i64 0))).heap[w.heap.size]? = some (ruleCells 0 false 0 0 0 0) := (set6_far (by omega)).trans (be_keep h54 vg)
    have QW := Aside0.mk (fun (j : Nat) (s : ByteArray) (hj : xs[j]? = some s) => (show (((((((w4.setCell ⟨w5.heap.size, 0, none⟩ (.int .i64 m)).setCell ⟨w5.heap.size, 1, none⟩ (.bool false)).setCell ⟨w5.heap.size, 2, none⟩ (.int .u32 A)).setCell ⟨w5.heap.size, 3, none⟩ (.int .i64 N)).setCell ⟨w5.heap.size, 4, none⟩ (.int .i64 0)).setCell ⟨w5.heap.size, 5, none⟩ (.int .i64 0))).cell? ⟨w.heap.size + 1, j, none⟩ = some (.string s) from (World.cell?_of_block (set6_far (by omega))).trans (be_cell h54 (QV.out j s hj))))
    have B6 : Below w.heap.size w (((((((w4.setCell ⟨w5.heap.size, 0, none⟩ (.int .i64 m)).setCell ⟨w5.heap.size, 1, none⟩ (.bool false)).setCell ⟨w5.heap.size, 2, none⟩ (.int .u32 A)).setCell ⟨w5.heap.size, 3, none⟩ (.int .i64 N)).setCell ⟨w5.heap.size, 4, none⟩ (.int .i64 0)).setCell ⟨w5.heap.size, 5, none⟩ (.int .i64 0))) := set6_below (be_go h54 vb (Nat.le_refl _)) (by omega)
    have gs : w5.heap.size < (((((((w4.setCell ⟨w5.heap.size, 0, none⟩ (.int .i64 m)).setCell ⟨w5.heap.size, 1, none⟩ (.bool false)).setCell ⟨w5.heap.size, 2, none⟩ (.int .u32 A)).setCell ⟨w5.heap.size, 3, none⟩ (.int .i64 N)).setCell ⟨w5.heap.size, 4, none⟩ (.int .i64 0)).setCell ⟨w5.heap.size, 5, none⟩ (.int .i64 0))).heap.size := by have q := blk_lt hgx0; simpa [World.setCell] using q
    have gw : w.heap.size + 1 < w5.heap.size := vs1
    have bs : w.heap.size + 1 < (((((((w4.setCell ⟨w5.heap.size, 0, none⟩ (.int .i64 m)).setCell ⟨w5.heap.size, 1, none⟩ (.bool false)).setCell ⟨w5.heap.size, 2, none⟩ (.int .u32 A)).setCell ⟨w5.heap.size, 3, none⟩ (.int .i64 N)).setCell ⟨w5.heap.size, 4, none⟩ (.int .i64 0)).setCell ⟨w5.heap.size, 5, none⟩ (.int .i64 0))).heap.size := Nat.lt_trans gw gs
    clear ordB hgx0 x0 x1 x2 x3 x4 x5 fx0 fx1 fx2 fx3 fx4 fx5
    clear h54 vg vb hb4 v0 v1 v2 v3 vs1 vs2 vn1 vn2 vn3 vn4 QV j0 j1 j2 j3 js jt jz
    generalize ((((((w4.setCell ⟨w5.heap.size, 0, none⟩ (.int .i64 m)).setCell ⟨w5.heap.size, 1, none⟩ (.bool false)).setCell ⟨w5.heap.size, 2, none⟩ (.int .u32 A)).setCell ⟨w5.heap.size, 3, none⟩ (.int .i64 N)).setCell ⟨w5.heap.size, 4, none⟩ (.int .i64 0)).setCell ⟨w5.heap.size, 5, none⟩ (.int .i64 0)) = w6 at *
    generalize w5.heap.size = gx at *
    obtain ⟨r0, r1, r2, r3, r4, r5, f0, f1, f2, f3, f4, f5⟩ := rc_all HG
    go_wp2_with (first | (go_at_call 33; refine (HL.out _ gx HX QW.out gw).mono ?_; rintro e w7 ⟨rfl, hx7, hb7⟩; have hg7 := (hb7.block w.heap.size (by omega)).trans HG; have B7 : Below w.heap.size w w7 := B6.trans (hb7.mono (by omega)); clear r0 r1 r2 r3 r4 r5 f0 f1 f2 f3 f4 f5; obtain ⟨r0, r1, r2, r3, r4, r5, f0, f1, f2, f3, f4, f5⟩ := rc_all hg7; obtain ⟨x0, x1, x2, x3, x4, x5, y0, y1, y2, y3, y4, y5⟩ := rc_all hx7) | (go_at_call 10; refine (hM _).mono ?_; rintro e w8 ⟨rfl, hb8⟩; have hg8 := be_keep hb8 hg7; have hx8 := be_keep hb8 hx7; have B8 : Below w.heap.size w w8 := be_go hb8 B7 (Nat.le_refl _); clear r0 r1 r2 r3 r4 r5 f0 f1 f2 f3 f4 f5 x0 x1 x2 x3 x4 x5 y0 y1 y2 y3 y4 y5; obtain ⟨r0, r1, r2, r3, r4, r5, f0, f1, f2, f3, f4, f5⟩ := rc_all hg8; obtain ⟨x0, x1, x2, x3, x4, x5, y0, y1, y2, y3, y4, y5⟩ := rc_all hx8))
    exact bodyPost_ret (results_ct rfl _ _ w.heap.size 26 _ (0, 0) _ rfl (set6 hg8) Tryz.underlying26 rfl rfl) rfl ⟨rfl, set6_below B8 (Nat.le_refl _)⟩
end Go.Proofs.YthngpkfckhmiiaaGreatDoor.X
end
section
set_option linter.unusedVariables false
set_option linter.unusedSimpArgs false
namespace Go.Proofs.YthngpkfckhmiiaaGreatDoor.X
open Go.RowKit Go.Proofs.YthngpkfckhmiiaaGreatDoorW.PrintWords Go.Proofs.YthngpkfckhmiiaaGreatDoor.Sl
theorem bytes_eq (s : ByteArray) (l : Array UInt8) : (s.toList == l.toList) = decide (s = ⟨l⟩) := by
  rw [ByteArray.toList_eq]
  by_cases h : s = ⟨l⟩
  · subst h
    simp
  · rw [decide_eq_false h, beq_eq_false_iff_ne]
    intro e
    apply h
    obtain ⟨d⟩ := s
    congr 1
    exact Array.toList_inj.1 e
theorem num_of {s : ByteArray} {m : Int} (h : plist_number.f s = some m) : num s = m := by simp [num, h]
theorem lim_all (g b o c : Nat) (r : List ByteArray) (s N A : Int) (p : Bool) (w : World) (hc : r.length ≤ c) (hg : w.heap[g]? = some (ruleCells s p A N 0 0)) (hbs : b < w.heap.size) (hne : b ≠ g)
    (hcell : ∀ (j : Nat) x, r[j]? = some x → w.cell? ⟨b, o + j, none⟩ = some (.string x)) (hall : ∀ x ∈ r, ∃ m, plist_number.f x = some m) :
    Calls Tryz.prog 33 #[.pointer (some ⟨g, 0, none⟩), .slice (some ⟨b, o, none⟩) r.length c] w fun e w' => LimPost g s p A N (limOut r).2.1 (limOut r).2.2 (limOut r).1 w e w' := by
  have hg' : w.heap[g]? = some (.cells #[.int .i64 s, .bool p, .int .u32 A, .int .i64 N, .int .i64 0, .int .i64 0] 26 (0, 0)) := hg
  match r, hc, hcell, hall with
  | [], hc, hcell, hall => exact lim_a g _ 0 c s N 0 0 A p w (by decide) hg'
  | [x], hc, hcell, hall =>
    have := lim_a g (some ⟨b, o, none⟩) 1 c s N 0 0 A p w (by decide) hg'
    exact this
  | x :: n :: r, hc, hcell, hall =>
    have h0 := hcell 0 x rfl
    have h1 := hcell 1 n rfl
    obtain ⟨m, hm⟩ := hall n (by simp)
    have hnm := num_of hm
    have hl2 : ¬ (((x :: n :: r).length : Nat) : Int) < 2 := by simp only [List.length_cons]; omega
    have hlen : (x :: n :: r).length = r.length + 2 := by simp
    have hl2' : (((x :: n :: r).length - 2 : Nat) : Int) = (r.length : Int) := by rw [hlen]; omega
    by_cases hx : x = geW
    · subst hx
      by_cases hm0 : m = 0
      · have e : limOut (geW :: n :: r) = (false, 0, 0) := by simp [limOut, hnm, hm0]
        rw [e]
        exact lim_ge0 g b o _ c s N 0 0 A p w hl2 hc hg' hbs hne h0 n h1 m hm (by simpa using hm0)
      · match r, hc, hcell, hall, hl2, hlen, hl2' with
        | [], hc, hcell, hall, hl2, hlen, hl2' =>
          have e : limOut (geW :: n :: []) = (true, m, 0) := by simp [limOut, hnm, hm0]
          rw [e]
          exact lim_ge1 g b o _ c s N 0 0 A p w hl2 hc hg' hbs hne h0 n h1 m hm (by simpa using hm0) (by simp)
        | [y], hc, hcell, hall, hl2, hlen, hl2' =>
          have e : limOut (geW :: n :: [y]) = (false, m, 0) := by simp [limOut, hnm, hm0]
          rw [e]
          exact lim_ge1 g b o _ c s N 0 0 A p w hl2 hc hg' hbs hne h0 n h1 m hm (by simpa using hm0) (by simp)
        | y :: n2 :: r2, hc, hcell, hall, hl2, hlen, hl2' =>
          have h2 := hcell 2 y rfl
          have h3 := hcell 3 n2 rfl
          obtain ⟨m2, hm2⟩ := hall n2 (by simp)
          have hnm2 := num_of hm2
          have hlt : ¬ (((geW :: n :: y :: n2 :: r2).length - 2 : Nat) : Int) < 2 := by simp only [List.length_cons]; omega
          by_cases hy : y = leW
          · subst hy
            by_cases hm20 : m2 = 0
            · have e : limOut (geW :: n :: leW :: n2 :: r2) = (false, m, 0) := by simp [limOut, hnm, hm0, hnm2, hm20]
              rw [e]
              exact lim_ge3 g b o _ c s N 0 0 A p w hl2 hc hg' hbs hne h0 n h1 m hm (by simpa using hm0) hlt n2 h2 h3 m2 hm2 (by simpa using hm20)
            · have e : limOut (geW :: n :: leW :: n2 :: r2) = ((((geW :: n :: leW :: n2 :: r2).length - 2 - 2 : Nat) : Int) == 0, m, m2) := by
                have e0 : (((geW :: n :: leW :: n2 :: r2).length - 2 - 2 : Nat) : Int) = (r2.length : Int) := by simp only [List.length_cons]; omega
                rw [e0]
                cases r2 <;> simp [limOut, hnm, hm0, hnm2, hm20]
                omega
              rw [e]
              exact lim_ge4 g b o _ c s N 0 0 A p w hl2 hc hg' hbs hne h0 n h1 m hm (by simpa using hm0) hlt n2 h2 h3 m2 hm2 (by simpa using hm20)
          · have e : limOut (geW :: n :: y :: n2 :: r2) = ((((geW :: n :: y :: n2 :: r2).length - 2 : Nat) : Int) == 0, m, 0) := by
              have e0 : ((((geW :: n :: y :: n2 :: r2).length - 2 : Nat) : Int) == 0) = false := by rw [beq_eq_false_iff_ne]; simp only [List.length_cons]; omega
              rw [e0]
              simp [limOut, hnm, hm0, hy]
            rw [e]
            exact lim_ge2 g b o _ c s N 0 0 A p w hl2 hc hg' hbs hne h0 n h1 m hm (by simpa using hm0) hlt y h2 (by
              have := bytes_eq y #[108, 101]
              simp only at this
              rw [this]
              exact decide_eq_false hy)
    · by_cases hx2 : x = leW
      · subst hx2
        by_cases hm0 : m = 0
        · have e : limOut (leW :: n :: r) = (false, 0, 0) := by simp [limOut, hnm, hm0, hx]
          rw [e]
          exact lim_le0 g b o _ c s N 0 0 A p w hl2 hc hg' hbs hne h0 n h1 m hm (by simpa using hm0)
        · have e : limOut (leW :: n :: r) = ((((leW :: n :: r).length - 2 : Nat) : Int) == 0, 0, m) := by
            have e0 : (((leW :: n :: r).length - 2 : Nat) : Int) = (r.length : Int) := by simp only [List.length_cons]; omega
            rw [e0]
            cases r <;> simp [limOut, hnm, hm0, hx]
            omega
          rw [e]
          exact lim_le1 g b o _ c s N 0 0 A p w hl2 hc hg' hbs hne h0 n h1 m hm (by simpa using hm0)
      · have e : limOut (x :: n :: r) = ((((x :: n :: r).length : Nat) : Int) == 0, 0, 0) := by
          have e0 : ((((x :: n :: r).length : Nat) : Int) == 0) = false := by rw [beq_eq_false_iff_ne]; simp only [List.length_cons]; omega
          rw [e0]
          simp [limOut, hx, hx2]
        rw [e]
        have q1 := bytes_eq x #[103, 101]
        have q2 := bytes_eq x #[108, 101]
        simp only at q1 q2
        exact lim_no g b o _ c s N 0 0 A p w hl2 hc hg' hbs hne x h0 (by rw [q1]; exact decide_eq_false hx) (by rw [q2]; exact decide_eq_false hx2)
end Go.Proofs.YthngpkfckhmiiaaGreatDoor.X
end
