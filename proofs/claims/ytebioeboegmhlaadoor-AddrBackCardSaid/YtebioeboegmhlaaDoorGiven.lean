/- Contracts of the library functions that the printed functions call, in the printed functions' own form. -/
import Derived.Test.YtebioeboegmhlaaDoorShelf
import Derived.Test.YtebioeboegmhlaaDoorDec
import Derived.Test.YtebioeboegmhlaaDoorWWords
import Derived.Test.YtebioeboegmhlaaDoorWMore
import Derived.Lib.SplitLaws
import Derived.Lib.LaidTab
import Derived.WalkSmall
import Derived.Lib.UnsafeStr
import Derived.WalkKit
import Derived.BigQuiet
import Derived.Deep.QuietTactic
namespace Go.Proofs.YtebioeboegmhlaaDoor.X
open Go.RowKit Go.Proofs.YtebioeboegmhlaaDoorW.PrintWords
set_option linter.unusedVariables false

/-- What the calls ask of the library's variables. -/
structure GW (w : World) : Prop where
  m : ∃ m, w.cell? ⟨0, 0, none⟩ = some (.int .i64 m)
  tab : Lib.TabIs Tryd.prog w "internal/strconv.uint64pow10" .u64 Lib.pow10Tab

theorem gPow : ∃ g, Tryd.prog.globalNamed "internal/strconv.uint64pow10" = some g := by
  have h : (Tryd.prog.globalNamed "internal/strconv.uint64pow10").isSome = true := by kernel_rfl
  exact Option.isSome_iff_exists.1 h
theorem tab_below {n : String} {g : Nat} {k : IntKind} {zs : List Int} {w w' : World} (hg : Tryd.prog.globalNamed n = some g) (h : Lib.TabIs Tryd.prog w n k zs) (hb : Below w.heap.size w w') : Lib.TabIs Tryd.prog w' n k zs := by
  unfold Lib.TabIs at h ⊢
  have hlt : g < w.heap.size := by
    unfold World.var? at h
    rw [hg] at h
    simp only [Option.bind_some] at h
    rcases Nat.lt_or_ge g w.heap.size with h' | h'
    · exact h'
    · rw [Array.getElem?_eq_none h'] at h
      simp at h
  exact var?_below hb hg hlt h
theorem GW.below {w w' : World} (h : GW w) (hb : Below w.heap.size w w') : GW w' := by
  obtain ⟨m, hm⟩ := h.m
  obtain ⟨g, hg⟩ := gPow
  exact ⟨⟨m, pw_cell_below hb hm⟩, tab_below hg h.tab hb⟩

def strings_Cut.f (a0 a1 : ByteArray) : Option (ByteArray × ByteArray × Bool) :=
  if a0.size < 4294967281 then some (⟨(Lib.cut a0.data.toList a1.data.toList).1.toArray⟩, ⟨(Lib.cut a0.data.toList a1.data.toList).2.1.toArray⟩, (Lib.cut a0.data.toList a1.data.toList).2.2) else none
theorem strings_Cut.calls (a0 a1 r1 r2 : ByteArray) (r3 : Bool) (w : World) (hG : GW w) (h : strings_Cut.f a0 a1 = some (r1, r2, r3)) :
    Calls Tryd.prog 32 #[.string a0, .string a1] w fun e w' => e = .returned (.tuple #[.string r1, .string r2, .bool r3]) ∧ Below w.heap.size w w' := by
  unfold strings_Cut.f at h
  split at h
  · rename_i hs
    simp only [Option.some.injEq, Prod.mk.injEq] at h
    obtain ⟨rfl, rfl, rfl⟩ := h
    obtain ⟨m, hm⟩ := hG.m
    refine (Tryd.strings_Cut a0 a1 m w hs hm).mono ?_
    rintro e w' ⟨rfl, n, rfl⟩
    exact ⟨rfl, pw_below_drewN (Below.refl _ _) n⟩
  · cases h

def strings_Split.f (a0 a1 : ByteArray) : Option (List ByteArray) :=
  if a0.size < 4294967281 ∧ 1 ≤ a1.size then some (Lib.splitB a1 0 (Lib.countB a0 a1) a0) else none
theorem own_strs (W : World) (base : Nat) (e : TypeId) (xs : List ByteArray) (n : Nat) (hn : xs.length = n) (hb : base ≤ W.heap.size) (hm : n ≤ 9223372036854775807) :
    Kd.R Kd.string e (W.alloc (.cells (xs.map Value.string).toArray e)) base (fun _ => True) (.slice (some ⟨W.heap.size, 0, none⟩) n n) xs := by
  subst hn
  refine Kd.R_of_own ?_ (fun _ _ => trivial)
  have h := World.ownsRow_lit (base := base) (e := e) (size := 1) W (xs.map Value.string).toArray xs.length hb (by simpa [maxLen] using hm) (by simp)
  simpa [encs] using h
theorem strings_Split.calls (a0 a1 : ByteArray) (r : List ByteArray) (w : World) (hG : GW w) (h : strings_Split.f a0 a1 = some r) :
    Calls Tryd.prog 33 #[.string a0, .string a1] w fun e w' => ∃ v0_ : Value, e = .returned (v0_) ∧ Kd.R Kd.string 9 w' w.heap.size (fun _ => True) v0_ r ∧ Below w.heap.size w w' := by
  unfold strings_Split.f at h
  split at h
  · rename_i hs
    simp only [Option.some.injEq] at h
    subst h
    obtain ⟨m, hm⟩ := hG.m
    have hl := Lib.splitB_all a1 hs.2 0 _ a0 rfl
    have hle := Lib.splitB_length_le a1 0 (Lib.countB a0 a1) a0
    refine (Tryd.strings_Split a0 a1 m w hs.1 hm hs.2).mono ?_
    rintro e w' ⟨rfl, rfl⟩
    exact ⟨_, rfl, own_strs w _ 9 _ _ hl (Nat.le_refl _) (by have := Lib.countB_le a1 hs.2 _ a0 (Nat.le_refl _); omega), below_alloc (Below.refl _ _) _⟩
  · cases h

def strconv_Itoa.f (a0 : Int) : Option ByteArray := if -9223372036854775808 ≤ a0 ∧ a0 ≤ 9223372036854775807 then some ⟨(Lib.itoa a0).toArray⟩ else none
theorem strconv_Itoa.calls (a0 : Int) (r : ByteArray) (w : World) (hG : GW w) (h : strconv_Itoa.f a0 = some r) :
    Calls Tryd.prog 36 #[.int .i64 a0] w fun e w' => e = .returned (.string r) ∧ Below w.heap.size w w' := by
  unfold strconv_Itoa.f at h
  split at h
  · rename_i hs
    simp only [Option.some.injEq] at h
    subst h
    refine (Tryd.strconv_Itoa a0 hs.1 hs.2 w hG.tab).mono ?_
    rintro e w' ⟨rfl, k, os, rfl⟩
    exact ⟨rfl, ⟨rfl, rfl, rfl, by show w.heap.size ≤ (w.heap ++ os).size; rw [Array.size_append]; omega, fun j hj => by show (w.heap ++ os)[j]? = w.heap[j]?; exact Array.getElem?_append_left hj⟩⟩
  · cases h

def strings_Join.f (l0 : List ByteArray) (a1 : ByteArray) : Option ByteArray :=
  if l0.length ≤ 140737488355328 ∧ (Lib.join (l0.map (·.data.toList)) a1.data.toList).length ≤ 140737488355328 then some ⟨(Lib.join (l0.map (·.data.toList)) a1.data.toList).toArray⟩ else none
theorem strings_Join.calls (A0 : Option Addr) (c0 : Nat) (l0 : List ByteArray) (a1 r : ByteArray) (w : World) (hr0 : Kd.C Kd.string w A0 l0.length l0) (hc0 : l0.length ≤ c0) (h : strings_Join.f l0 a1 = some r) :
    Calls Tryd.prog 37 #[.slice A0 l0.length c0, .string a1] w fun e w' => e = .returned (.string r) ∧ Below w.heap.size w w' := by
  unfold strings_Join.f at h
  split at h
  · rename_i hs
    simp only [Option.some.injEq] at h
    subst h
    rcases Nat.eq_zero_or_pos l0.length with h0 | h0
    · obtain rfl : l0 = [] := List.eq_nil_of_length_eq_zero h0
      refine (Tryd.strings_Join_none A0 c0 a1 w).mono ?_
      rintro e w' ⟨rfl, rfl⟩
      exact ⟨rfl, Below.refl _ _⟩
    · obtain ⟨ad, rfl, hc⟩ := hr0.2.2 h0
      have hcell : ∀ (j : Nat) x, l0[j]? = some x → w.cell? (ad.add j) = some (.string x) := by
        intro j x hj
        obtain ⟨c, _, hk, hcc⟩ := hc j x hj
        have hk' : c = [Value.string x] := hk
        subst hk'
        have := hcc 0 (.string x) rfl
        have e1 : j * Kd.string.sz + 0 = j := by show j * 1 + 0 = j; omega
        rwa [e1] at this
      obtain ⟨b, o, sp⟩ := ad
      have hc0' := hcell 0 (l0[0]'h0) (List.getElem?_eq_getElem h0)
      have hsp : sp = none := by
        cases sp with
        | none => rfl
        | some s =>
          simp only [Addr.add, if_true, World.cell?] at hc0'
          split at hc0' <;> simp at hc0'
      subst hsp
      have hb := World.block_lt_of_cell? w _ hc0'
      have hb' : b < w.heap.size := by simpa [Addr.add] using hb
      refine (Tryd.strings_Join b o c0 l0 a1 w (fun j x hj => ?_) hb' hs.1 hc0 hs.2).mono (fun e w' h => h)
      have := hcell j x hj
      have e2 : (⟨b, o, none⟩ : Addr).add j = ⟨b, o + j, none⟩ := by unfold Addr.add; split <;> simp_all
      rwa [e2] at this
  · cases h

def isNone (x : Nat) : Bool := decide (x < 48) || decide (57 < x)
def addr_number.f (a0 : ByteArray) (a1 : Int) : Option (Int × Bool) :=
  if a0.size = 0 then some (0, false) else if 3 < a0.size then some (0, false) else if 1 < a0.size ∧ bt a0 0 = 48 then some (0, false)
  else if 0 ≤ Lib.idxFunc isNone true a0 then some (0, false) else (Lib.atoi a0.data.toList).bind fun n => some (n, decide (n ≤ a1))

theorem isNone_is (x : Nat) : isNone x = (decide ((x : Int) < 48) || decide (57 < (x : Int))) := by
  unfold isNone
  have e1 : decide (x < 48) = decide ((x : Int) < 48) := decide_eq_decide.2 (by omega)
  have e2 : decide (57 < x) = decide (57 < (x : Int)) := decide_eq_decide.2 (by omega)
  rw [e1, e2]
theorem isNone_calls (x : Nat) (w : World) : Calls Tryd.prog 43 #[.int .i32 x] w fun e w' => e = .returned (.bool (isNone x)) ∧ Below w.heap.size w w' := by
  rw [isNone_is]
  by_cases h : (x : Int) < 48
  · have h1 : decide ((x : Int) < 48) = true := by simpa using h
    go_enter Tryd.func43, Tryd.ntmps43
    go_wp2
    all_goals (go_ret; exact ⟨by simp; try omega, by repeat (first | exact Below.refl _ _ | apply below_drew)⟩)
  · have h1 : decide ((x : Int) < 48) = false := by simpa using h
    go_enter Tryd.func43, Tryd.ntmps43
    go_wp2
    all_goals (go_ret; exact ⟨by simp, by repeat (first | exact Below.refl _ _ | apply below_drew)⟩)
theorem isNone_grows (w : World) : PredGrows Tryd.prog 43 #[] isNone w := fun W x hx hb => by
  have := isNone_calls x W
  simpa [encR] using this

theorem bytes_below (w : World) (t : ByteArray) : Below w.heap.size w (Lib.bytesWorld w 5 t) :=
  Lib.below_freeze ((Below.drew (Below.refl _ w)).alloc (Nat.le_refl _) _) (p := ⟨w.heap.size, _, none⟩) (Nat.le_refl _) 1
theorem not_empty (a0 : ByteArray) (h : a0.size ≠ 0) : a0.toList.isEmpty = false := by
  rw [List.isEmpty_eq_false_iff]
  rw [ByteArray.toList_eq]
  intro h'
  apply h
  have : a0.data.toList.length = 0 := by rw [h']; rfl
  simpa using this
theorem number_empty (a1 : Int) (w : World) :
    Calls Tryd.prog 34 #[.string ⟨#[]⟩, .int .i64 a1] w fun e w' => e = .returned (.tuple #[.int .i64 0, .bool false]) ∧ Below w.heap.size w w' := by
  go_enter Tryd.func34, Tryd.ntmps34
  go_wp2
  go_ret2
  exact ⟨rfl, Below.refl _ _⟩
theorem number_long (a0 : ByteArray) (a1 : Int) (w : World) (hz : 3 < (a0.size : Int)) (h1 : a0.toList.isEmpty = false) :
    Calls Tryd.prog 34 #[.string a0, .int .i64 a1] w fun e w' => e = .returned (.tuple #[.int .i64 0, .bool false]) ∧ Below w.heap.size w w' := by
  go_enter Tryd.func34, Tryd.ntmps34
  go_wp2
  go_ret2
  exact ⟨rfl, Below.refl _ _⟩
theorem number_nought (a0 : ByteArray) (a1 : Int) (w : World) (hz : (a0.size : Int) ≤ 3) (hz1 : 1 < (a0.size : Int)) (h1 : a0.toList.isEmpty = false) (h0 : (((a0[0]'(by omega)).toNat : Int) == 48) = true) :
    Calls Tryd.prog 34 #[.string a0, .int .i64 a1] w fun e w' => e = .returned (.tuple #[.int .i64 0, .bool false]) ∧ Below w.heap.size w w' := by
  go_enter Tryd.func34, Tryd.ntmps34
  go_wp2
  go_ret2
  exact ⟨rfl, Below.refl _ _⟩
theorem number_none1 (a0 : ByteArray) (a1 : Int) (w : World) (hz : (a0.size : Int) ≤ 3) (hz1 : (a0.size : Int) ≤ 1) (h1 : a0.toList.isEmpty = false) (hc : decide (0 ≤ Lib.idxFunc isNone true a0) = true) :
    Calls Tryd.prog 34 #[.string a0, .int .i64 a1] w fun e w' => e = .returned (.tuple #[.int .i64 0, .bool false]) ∧ Below w.heap.size w w' := by
  have hh := Tryd.strings_ContainsFunc_grows 43 #[] (enters_of Tryd.func43 (by kernel_rfl) rfl) isNone a0 w (isNone_grows w)
  rw [hc] at hh
  clear hc
  go_enter Tryd.func34, Tryd.ntmps34
  go_wp2_with (go_at_call 44; refine hh.mono ?_; rintro e w' ⟨rfl, hb⟩)
  go_ret2
  exact ⟨rfl, hb⟩
theorem number_some1 (a0 : ByteArray) (a1 n : Int) (w : World) (hz : (a0.size : Int) ≤ 3) (hz1 : (a0.size : Int) ≤ 1) (h1 : a0.toList.isEmpty = false) (hc : decide (0 ≤ Lib.idxFunc isNone true a0) = false) (hn : Lib.atoi a0.data.toList = some n) :
    Calls Tryd.prog 34 #[.string a0, .int .i64 a1] w fun e w' => e = .returned (.tuple #[.int .i64 n, .bool (decide (n ≤ a1))]) ∧ Below w.heap.size w w' := by
  have hh := Tryd.strings_ContainsFunc_grows 43 #[] (enters_of Tryd.func43 (by kernel_rfl) rfl) isNone a0 w (isNone_grows w)
  rw [hc] at hh
  have ha := fun W => Tryd.strconv_Atoi a0 n (by omega) hn W
  clear hc hn
  go_enter Tryd.func34, Tryd.ntmps34
  go_wp2_with (first | (go_at_call 44; refine hh.mono ?_; rintro e w' ⟨rfl, hb⟩) | (go_at_call 45; refine (ha _).mono ?_; rintro e w' ⟨rfl, t, rfl⟩))
  all_goals (go_ret2; exact ⟨by simp [*], hb.trans ((bytes_below _ _).mono hb.size)⟩)
theorem number_none2 (a0 : ByteArray) (a1 : Int) (w : World) (hz : (a0.size : Int) ≤ 3) (hz1 : 1 < (a0.size : Int)) (h1 : a0.toList.isEmpty = false) (h0 : (((a0[0]'(by omega)).toNat : Int) == 48) = false) (hc : decide (0 ≤ Lib.idxFunc isNone true a0) = true) :
    Calls Tryd.prog 34 #[.string a0, .int .i64 a1] w fun e w' => e = .returned (.tuple #[.int .i64 0, .bool false]) ∧ Below w.heap.size w w' := by
  have hh := Tryd.strings_ContainsFunc_grows 43 #[] (enters_of Tryd.func43 (by kernel_rfl) rfl) isNone a0 w (isNone_grows w)
  rw [hc] at hh
  clear hc
  go_enter Tryd.func34, Tryd.ntmps34
  go_wp2_with (go_at_call 44; refine hh.mono ?_; rintro e w' ⟨rfl, hb⟩)
  go_ret2
  exact ⟨rfl, hb⟩
theorem number_some2 (a0 : ByteArray) (a1 n : Int) (w : World) (hz : (a0.size : Int) ≤ 3) (hz1 : 1 < (a0.size : Int)) (h1 : a0.toList.isEmpty = false) (h0 : (((a0[0]'(by omega)).toNat : Int) == 48) = false) (hc : decide (0 ≤ Lib.idxFunc isNone true a0) = false) (hn : Lib.atoi a0.data.toList = some n) :
    Calls Tryd.prog 34 #[.string a0, .int .i64 a1] w fun e w' => e = .returned (.tuple #[.int .i64 n, .bool (decide (n ≤ a1))]) ∧ Below w.heap.size w w' := by
  have hh := Tryd.strings_ContainsFunc_grows 43 #[] (enters_of Tryd.func43 (by kernel_rfl) rfl) isNone a0 w (isNone_grows w)
  rw [hc] at hh
  have ha := fun W => Tryd.strconv_Atoi a0 n (by omega) hn W
  clear hc hn
  go_enter Tryd.func34, Tryd.ntmps34
  go_wp2_with (first | (go_at_call 44; refine hh.mono ?_; rintro e w' ⟨rfl, hb⟩) | (go_at_call 45; refine (ha _).mono ?_; rintro e w' ⟨rfl, t, rfl⟩))
  all_goals (go_ret2; exact ⟨by simp [*], hb.trans ((bytes_below _ _).mono hb.size)⟩)
theorem addr_number.calls (a0 : ByteArray) (a1 r1 : Int) (r2 : Bool) (w : World) (hG : GW w) (h : addr_number.f a0 a1 = some (r1, r2)) :
    Calls Tryd.prog 34 #[.string a0, .int .i64 a1] w fun e w' => e = .returned (.tuple #[.int .i64 r1, .bool r2]) ∧ Below w.heap.size w w' := by
  unfold addr_number.f at h
  split at h
  · rename_i hz
    have e : a0 = ⟨#[]⟩ := by
      obtain ⟨d⟩ := a0
      congr 1
      exact Array.eq_empty_of_size_eq_zero hz
    subst e
    simp only [Option.some.injEq, Prod.mk.injEq] at h
    obtain ⟨rfl, rfl⟩ := h
    exact number_empty a1 w
  rename_i hz
  have h1 := not_empty a0 hz
  split at h
  · rename_i hl
    simp only [Option.some.injEq, Prod.mk.injEq] at h
    obtain ⟨rfl, rfl⟩ := h
    exact number_long a0 a1 w (by omega) h1
  rename_i hl
  split at h
  · rename_i h0
    simp only [Option.some.injEq, Prod.mk.injEq] at h
    obtain ⟨rfl, rfl⟩ := h
    refine number_nought a0 a1 w (by omega) (by omega) h1 ?_
    rw [beq_iff_eq, ← h0.2]
    exact bt_at a0 0 (by simp; omega)
  rename_i h0
  by_cases h2 : 1 < a0.size
  · have hb : (((a0[0]'(by omega)).toNat : Int) == 48) = false := by
      rw [beq_eq_false_iff_ne]
      intro e
      exact h0 ⟨h2, by rw [← e]; exact (bt_at a0 0 (by simp; omega)).symm⟩
    split at h
    · rename_i hc
      simp only [Option.some.injEq, Prod.mk.injEq] at h
      obtain ⟨rfl, rfl⟩ := h
      exact number_none2 a0 a1 w (by omega) (by omega) h1 hb (decide_eq_true hc)
    · rename_i hc
      obtain ⟨n, hn, h⟩ := Option.bind_eq_some_iff.1 h
      simp only [Option.some.injEq, Prod.mk.injEq] at h
      obtain ⟨rfl, rfl⟩ := h
      exact number_some2 a0 a1 n w (by omega) (by omega) h1 hb (decide_eq_false hc) hn
  · split at h
    · rename_i hc
      simp only [Option.some.injEq, Prod.mk.injEq] at h
      obtain ⟨rfl, rfl⟩ := h
      exact number_none1 a0 a1 w (by omega) (by omega) h1 (decide_eq_true hc)
    · rename_i hc
      obtain ⟨n, hn, h⟩ := Option.bind_eq_some_iff.1 h
      simp only [Option.some.injEq, Prod.mk.injEq] at h
      obtain ⟨rfl, rfl⟩ := h
      exact number_some1 a0 a1 n w (by omega) (by omega) h1 (decide_eq_false hc) hn

def bits_LeadingZeros32.f (a0 : Int) : Option Int := if 0 ≤ a0 ∧ a0 ≤ 4294967295 then some (32 - (Lib.bitLen a0.toNat : Int)) else none
theorem bits_LeadingZeros32.calls (a0 r : Int) (w : World) (h : bits_LeadingZeros32.f a0 = some r) :
    Calls Tryd.prog 38 #[.int .u32 a0] w fun e w' => e = .returned (.int .i64 r) ∧ Below w.heap.size w w' := by
  unfold bits_LeadingZeros32.f at h
  split at h
  · rename_i hs
    simp only [Option.some.injEq] at h
    subst h
    refine (Tryd.bits_LeadingZeros32 a0 w hs.1 hs.2).mono ?_
    rintro e w' ⟨rfl, rfl⟩
    exact ⟨rfl, Below.refl _ _⟩
  · cases h

def addr_Long.f (a0 : Int) : Option (Int × Int) := (bits_LeadingZeros32.f (Go.bits .xor .u32 IntKind.u32.max a0)).bind fun n => (addr_Mask.f n).bind fun m =>
  if m = a0 then some (n, 0) else some (0, 3)
theorem addr_Long.calls (a0 r1 r2 : Int) (w : World) (h : addr_Long.f a0 = some (r1, r2)) :
    Calls Tryd.prog 15 #[.int .u32 a0] w fun e w' => e = .returned (.tuple #[.int .i64 r1, .int .i64 r2]) ∧ Below w.heap.size w w' := by
  unfold addr_Long.f at h
  obtain ⟨n, hn, h⟩ := Option.bind_eq_some_iff.1 h
  obtain ⟨m, hm, h⟩ := Option.bind_eq_some_iff.1 h
  have cn := fun W => bits_LeadingZeros32.calls _ n W hn
  have cm := fun W => addr_Mask.calls n m W hm
  clear hn hm
  by_cases e : m = a0
  · rw [if_pos e] at h
    have e' : (m != a0) = false := by simpa using e
    clear e
    simp only [Option.some.injEq, Prod.mk.injEq] at h
    obtain ⟨rfl, rfl⟩ := h
    go_enter Tryd.func15, Tryd.ntmps15
    go_wp2_with (first | (go_at_call 38; refine (cn _).mono ?_; rintro e w1 ⟨rfl, hb1⟩) | (go_at_call 16; refine (cm _).mono ?_; rintro e w2 ⟨rfl, hb2⟩))
    go_ret2
    exact ⟨rfl, hb1.trans (hb2.mono hb1.size)⟩
  · rw [if_neg e] at h
    have e' : (m != a0) = true := by simpa using e
    clear e
    simp only [Option.some.injEq, Prod.mk.injEq] at h
    obtain ⟨rfl, rfl⟩ := h
    go_enter Tryd.func15, Tryd.ntmps15
    go_wp2_with (first | (go_at_call 38; refine (cn _).mono ?_; rintro e w1 ⟨rfl, hb1⟩) | (go_at_call 16; refine (cm _).mono ?_; rintro e w2 ⟨rfl, hb2⟩))
    go_ret2
    exact ⟨rfl, hb1.trans (hb2.mono hb1.size)⟩

end Go.Proofs.YtebioeboegmhlaaDoor.X
