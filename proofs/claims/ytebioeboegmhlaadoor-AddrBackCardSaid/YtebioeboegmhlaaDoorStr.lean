/- Strings as lists of bytes: cutting, splitting, decimal digits. Plain lemmas. -/
import Derived.Test.YtebioeboegmhlaaDoorWMore
import Derived.Lib.SplitLaws
import Derived.Lib.Split
import Derived.Lib.Join
import Derived.Lib.Atoi
import Derived.Lib.ItoaNum
import Derived.Shelf.GgClosure.StringsIndexFunc
set_option linter.unusedVariables false
set_option linter.unusedSimpArgs false
namespace Go.Proofs.YtebioeboegmhlaaDoor.X
open Go.RowKit Go.Proofs.YtebioeboegmhlaaDoorW.PrintWords Go.Proofs.YtebioeboegmhlaaDoorW.PrintMore

/-- A string out of its bytes. -/
def mk (l : List UInt8) : ByteArray := ⟨l.toArray⟩
@[simp] theorem mk_data (l : List UInt8) : (mk l).data.toList = l := by simp [mk]
theorem mk_size (l : List UInt8) : (mk l).size = l.length := by simp [mk, ByteArray.size]
theorem mk_of (s : ByteArray) : s = mk s.data.toList := by cases s; simp [mk]
theorem mk_eta (s : ByteArray) : (⟨s.data.toList.toArray⟩ : ByteArray) = s := by cases s; simp
theorem mk_inj {a b : List UInt8} (h : mk a = mk b) : a = b := by
  have := congrArg (fun s => s.data.toList) h
  simpa using this
theorem mk_append (a b : List UInt8) : mk a ++ mk b = mk (a ++ b) := by
  have h : (mk a ++ mk b).data = (mk a).data ++ (mk b).data := ByteArray.data_append
  rw [mk_of (mk a ++ mk b), h]
  simp [mk]
theorem data_extract (s : ByteArray) (i j : Nat) : (s.extract i j).data.toList = (s.data.toList.take j).drop i := by
  rw [ByteArray.data_extract, Array.toList_extract, List.extract_eq_take_drop, List.drop_take]
theorem mk_drop (l : List UInt8) (i : Nat) : (mk l).extract i (mk l).size = mk (l.drop i) := by
  rw [mk_of ((mk l).extract i (mk l).size), data_extract, mk_size, mk_data, List.take_length]
theorem bt_mk (l : List UInt8) (i : Int) : bt (mk l) i = ((l.getD i.toNat 0).toNat : Int) := by
  unfold bt
  by_cases h : i.toNat < (mk l).size
  · rw [dif_pos h]
    have h' : i.toNat < l.length := by rw [mk_size] at h; exact h
    rw [List.getD_eq_getElem?_getD, List.getElem?_eq_getElem h']
    rfl
  · rw [dif_neg h]
    have h' : ¬ i.toNat < l.length := by rw [mk_size] at h; exact h
    rw [List.getD_eq_getElem?_getD, List.getElem?_eq_none (by omega)]
    rfl

/-! ### Splitting at one byte -/
def spl (c : UInt8) : List UInt8 → List (List UInt8)
  | [] => [[]]
  | b :: r => if b = c then [] :: spl c r else match spl c r with
    | p :: ps => (b :: p) :: ps
    | [] => [[b]]
theorem spl_ne (c : UInt8) (l : List UInt8) : spl c l ≠ [] := by
  cases l with
  | nil => simp [spl]
  | cons b r =>
    unfold spl
    split
    · simp
    · split <;> simp
theorem index_nil (c : UInt8) : Lib.index [] [c] = -1 := rfl
theorem index_hit (c : UInt8) (r : List UInt8) : Lib.index (c :: r) [c] = 0 := by simp [Lib.index, List.isPrefixOf]
theorem index_miss {b c : UInt8} (r : List UInt8) (h : b ≠ c) : Lib.index (b :: r) [c] = if Lib.index r [c] == -1 then -1 else Lib.index r [c] + 1 := by
  have h' : (c == b) = false := by simpa using fun e => h e.symm
  simp [Lib.index, List.isPrefixOf, h']
theorem index_count (c : UInt8) (l : List UInt8) : Lib.index l [c] = -1 ↔ l.count c = 0 := by
  induction l with
  | nil => simp [index_nil]
  | cons b r ih =>
    by_cases h : b = c
    · subst h; simp [index_hit]
    · rw [index_miss r h, List.count_cons_of_ne (fun e => h e)]
      have := Lib.index_ge r [c]
      by_cases h2 : Lib.index r [c] = -1
      · simp [h2, ih.1 h2]
      · have h3 : (Lib.index r [c] == -1) = false := by simpa using h2
        rw [h3]
        constructor
        · intro h4; simp at h4; omega
        · intro h4; exact absurd (ih.2 h4) h2
theorem splitK_spl (c : UInt8) : ∀ (l : List UInt8), Lib.splitK [c] 0 (l.count c) l = spl c l := by
  intro l
  induction l with
  | nil => rfl
  | cons b r ih =>
    by_cases h : b = c
    · subst h
      rw [List.count_cons_self]
      unfold spl Lib.splitK
      rw [index_hit, if_pos rfl]
      simp [ih]
    · rw [List.count_cons_of_ne (fun e => h e)]
      unfold spl
      rw [if_neg h]
      cases hk : r.count c with
      | zero =>
        rw [hk] at ih
        unfold Lib.splitK at ih ⊢
        rw [← ih]
      | succ k =>
        rw [hk] at ih
        have hn : Lib.index r [c] ≠ -1 := fun e => by rw [(index_count c r).1 e] at hk; cases hk
        have hg := Lib.index_ge r [c]
        have h3 : (Lib.index r [c] == -1) = false := by simpa using hn
        unfold Lib.splitK at ih ⊢
        rw [index_miss r h, h3]
        rw [h3] at ih
        simp only [Bool.false_eq_true, if_false] at ih ⊢
        have h4 : (Lib.index r [c] + 1 == -1) = false := by simp; omega
        rw [h4]
        simp only [Bool.false_eq_true, if_false]
        rw [← ih]
        have e : (Lib.index r [c] + 1).toNat = (Lib.index r [c]).toNat + 1 := by omega
        rw [e]
        simp [Nat.add_right_comm]
theorem splitB_spl (c : UInt8) (l : List UInt8) : Lib.splitB (mk [c]) 0 (Lib.countB (mk l) (mk [c])) (mk l) = (spl c l).map mk := by
  have h := Lib.splitB_data (mk [c]) 0 (Lib.countB (mk l) (mk [c])) (mk l)
  have hc : Lib.countB (mk l) (mk [c]) = l.count c := by
    unfold Lib.countB
    rw [mk_data, mk_data, Lib.count_one]
  rw [hc] at h ⊢
  rw [mk_data, mk_data, splitK_spl] at h
  rw [← h, List.map_map]
  have : (fun x => x) = (mk ∘ fun x : ByteArray => x.data.toList) := by
    funext x
    exact mk_of x
  rw [← this]
  simp

/-- What stands between the marks, put together again. -/
def join1 (c : UInt8) : List (List UInt8) → List UInt8
  | [] => []
  | [p] => p
  | p :: q :: ps => p ++ c :: join1 c (q :: ps)
theorem join_spl (c : UInt8) (l : List UInt8) : join1 c (spl c l) = l := by
  induction l with
  | nil => rfl
  | cons b r ih =>
    unfold spl
    split
    · rename_i h
      subst h
      cases hs : spl b r with
      | nil => exact absurd hs (spl_ne b r)
      | cons p ps => rw [hs] at ih; simp [join1, ih]
    · cases hs : spl c r with
      | nil => exact absurd hs (spl_ne c r)
      | cons p ps =>
        rw [hs] at ih
        cases ps with
        | nil => simp [join1] at ih ⊢; exact ih
        | cons q qs => simp [join1] at ih ⊢; exact ih
theorem spl_mem (c : UInt8) (l : List UInt8) : ∀ p ∈ spl c l, c ∉ p := by
  induction l with
  | nil => simp [spl]
  | cons b r ih =>
    unfold spl
    split
    · intro p hp
      rcases List.mem_cons.1 hp with rfl | hp
      · simp
      · exact ih p hp
    · rename_i h
      cases hs : spl c r with
      | nil => exact absurd hs (spl_ne c r)
      | cons q ps =>
        rw [hs] at ih
        intro p hp
        rcases List.mem_cons.1 hp with rfl | hp
        · have := ih q (by simp)
          simp only [List.mem_cons, not_or]
          exact ⟨fun e => h e.symm, this⟩
        · exact ih p (by simp [hp])
theorem spl_none (c : UInt8) {l : List UInt8} (h : c ∉ l) : spl c l = [l] := by
  induction l with
  | nil => rfl
  | cons b r ih =>
    simp only [List.mem_cons, not_or] at h
    unfold spl
    rw [if_neg (fun e => h.1 e.symm), ih h.2]
theorem spl_app (c : UInt8) {p : List UInt8} (h : c ∉ p) (r : List UInt8) : spl c (p ++ c :: r) = p :: spl c r := by
  induction p with
  | nil => simp [spl]
  | cons b q ih =>
    simp only [List.mem_cons, not_or] at h
    simp only [List.cons_append]
    rw [show spl c (b :: (q ++ c :: r)) = (if b = c then [] :: spl c (q ++ c :: r) else match spl c (q ++ c :: r) with | p :: ps => (b :: p) :: ps | [] => [[b]]) from rfl]
    rw [if_neg (fun e => h.1 e.symm), ih h.2]

/-! ### Cutting at one byte -/
theorem index_app (c : UInt8) {p : List UInt8} (h : c ∉ p) (r : List UInt8) : Lib.index (p ++ c :: r) [c] = (p.length : Int) := by
  induction p with
  | nil => exact index_hit c r
  | cons b q ih =>
    simp only [List.mem_cons, not_or] at h
    rw [List.cons_append, index_miss _ (fun e => h.1 e.symm), ih h.2]
    have h3 : ((q.length : Int) == -1) = false := by rw [beq_eq_false_iff_ne]; omega
    rw [h3]
    simp
theorem cut_app (c : UInt8) {p : List UInt8} (h : c ∉ p) (r : List UInt8) : Lib.cut (p ++ c :: r) [c] = (p, r, true) := by
  unfold Lib.cut
  rw [index_app c h r, if_pos (by omega)]
  simp
theorem cut_none (c : UInt8) {l : List UInt8} (h : c ∉ l) : Lib.cut l [c] = (l, [], false) := by
  unfold Lib.cut
  rw [(index_count c l).2 (List.count_eq_zero.2 h)]
  simp
theorem mem_cut (c : UInt8) (l : List UInt8) : c ∉ l ∨ ∃ p r, c ∉ p ∧ l = p ++ c :: r := by
  induction l with
  | nil => simp
  | cons b q ih =>
    by_cases h : b = c
    · subst h; exact .inr ⟨[], q, by simp, rfl⟩
    · rcases ih with ih | ⟨p, r, hp, rfl⟩
      · refine .inl ?_
        simp only [List.mem_cons, not_or]
        exact ⟨fun e => h e.symm, ih⟩
      · refine .inr ⟨b :: p, r, ?_, rfl⟩
        simp only [List.mem_cons, not_or]
        exact ⟨fun e => h e.symm, hp⟩

/-! ### Decimal digits -/
def isD (b : UInt8) : Bool := decide (48 ≤ b.toNat) && decide (b.toNat ≤ 57)
theorem isD_iff {b : UInt8} : isD b = true ↔ 48 ≤ b.toNat ∧ b.toNat ≤ 57 := by simp [isD]
def dd (n : Nat) : List UInt8 := Lib.decDigits n
theorem dd_small {n : Nat} (h : n < 10) : dd n = [UInt8.ofNat (48 + n)] := by unfold dd; rw [Lib.decDigits, dif_pos h]
theorem dd_big {n : Nat} (h : ¬ n < 10) : dd n = dd (n / 10) ++ [UInt8.ofNat (48 + n % 10)] := by unfold dd; rw [Lib.decDigits, dif_neg h]
theorem dg_toNat {d : Nat} (h : d < 10) : (UInt8.ofNat (48 + d)).toNat = 48 + d := by
  rw [UInt8.toNat_ofNat']
  omega
theorem dd_digits (n : Nat) : ∀ b ∈ dd n, isD b = true := by
  induction n using Nat.strongRecOn with
  | _ n ih =>
    by_cases h : n < 10
    · rw [dd_small h]
      intro b hb
      rw [List.mem_singleton.1 hb, isD_iff, dg_toNat h]
      omega
    · rw [dd_big h]
      intro b hb
      rcases List.mem_append.1 hb with hb | hb
      · exact ih (n / 10) (by omega) b hb
      · rw [List.mem_singleton.1 hb, isD_iff, dg_toNat (by omega)]
        omega
theorem dd_ne (n : Nat) : dd n ≠ [] := by
  by_cases h : n < 10
  · rw [dd_small h]; simp
  · rw [dd_big h]; simp
theorem dd_len {n : Nat} : ∀ {k : Nat}, n < 10 ^ k → 0 < k → (dd n).length ≤ k := by
  induction n using Nat.strongRecOn with
  | _ n ih =>
    intro k hk hp
    by_cases h : n < 10
    · rw [dd_small h]; simp; omega
    · rw [dd_big h]
      obtain ⟨j, rfl⟩ : ∃ j, k = j + 1 := ⟨k - 1, by omega⟩
      rw [Nat.pow_succ] at hk
      have hj : 0 < j := by
        rcases Nat.eq_zero_or_pos j with rfl | hj
        · simp at hk; omega
        · exact hj
      have := ih (n / 10) (by omega) (k := j) (by omega) hj
      simp
      omega
theorem dd_pos (n : Nat) : 1 ≤ (dd n).length := by
  have := dd_ne n
  cases h : dd n with
  | nil => exact absurd h this
  | cons a b => simp
/-- The number that digits spell. -/
def val (l : List UInt8) : Nat := l.foldl (fun a b => a * 10 + (b.toNat - 48)) 0
theorem val_snoc (l : List UInt8) (b : UInt8) : val (l ++ [b]) = val l * 10 + (b.toNat - 48) := by simp [val]
theorem val_dd (n : Nat) : val (dd n) = n := by
  induction n using Nat.strongRecOn with
  | _ n ih =>
    by_cases h : n < 10
    · rw [dd_small h]
      simp only [val, List.foldl_cons, List.foldl_nil]
      rw [dg_toNat h]; omega
    · rw [dd_big h, val_snoc, ih (n / 10) (by omega), dg_toNat (by omega)]
      omega
theorem dd_inj {m n : Nat} (h : dd m = dd n) : m = n := by rw [← val_dd m, h, val_dd]
/-- No nought stands in front, but for 0 itself. -/
theorem dd_front (n : Nat) (h : 10 ≤ n) : ∃ b r, dd n = b :: r ∧ 49 ≤ b.toNat := by
  induction n using Nat.strongRecOn with
  | _ n ih =>
    rw [dd_big (by omega)]
    by_cases h2 : n / 10 < 10
    · rw [dd_small h2]
      exact ⟨_, _, rfl, by rw [dg_toNat h2]; omega⟩
    · obtain ⟨b, r, e, hb⟩ := ih (n / 10) (by omega) (by omega)
      rw [e]
      exact ⟨b, _, rfl, hb⟩
theorem byte_of {b : UInt8} (h : isD b = true) : b = UInt8.ofNat (48 + (b.toNat - 48)) := by
  have := isD_iff.1 h
  apply UInt8.toNat_inj.1
  rw [dg_toNat (by omega)]
  omega
/-- Digits without a nought in front are what a number is written as. -/
theorem dd_val : ∀ (l : List UInt8), l ≠ [] → (∀ b ∈ l, isD b = true) → (l.length = 1 ∨ ∃ b r, l = b :: r ∧ 49 ≤ b.toNat) → dd (val l) = l := by
  intro l
  induction hn : l.length using Nat.strongRecOn generalizing l with
  | _ n ih =>
    intro hne hd hf
    rcases List.eq_nil_or_concat l with rfl | ⟨q, b, rfl⟩
    · exact absurd rfl hne
    · rw [List.concat_eq_append] at *
      have hb := hd b (by simp)
      have hbi := isD_iff.1 hb
      rw [val_snoc]
      cases q with
      | nil =>
        have h0 : val [] = 0 := rfl
        simp only [h0, Nat.zero_mul, Nat.zero_add, List.nil_append]
        rw [dd_small (by omega), ← byte_of hb]
      | cons a q =>
        have hf' : ∃ b r, a :: q = b :: r ∧ 49 ≤ b.toNat := by
          rcases hf with hf | ⟨b', r', e, h49⟩
          · rw [hf] at hn; simp at hn
          · simp only [List.cons_append, List.cons.injEq] at e
            exact ⟨a, q, rfl, by rw [e.1]; exact h49⟩
        have h1 := ih (a :: q).length (by rw [← hn]; simp) (a :: q) rfl (by simp) (fun x hx => hd x (by simp only [List.mem_append]; exact .inl hx)) (.inr hf')
        have hpos : 1 ≤ val (a :: q) := by
          rcases Nat.eq_zero_or_pos (val (a :: q)) with h0 | h0
          · exfalso
            rw [h0, dd_small (by omega)] at h1
            obtain ⟨b', r', e, h49⟩ := hf'
            rw [e] at h1
            simp only [List.cons.injEq] at h1
            rw [← h1.1] at h49
            revert h49
            decide
          · exact h0
        rw [dd_big (by omega)]
        have e1 : (val (a :: q) * 10 + (b.toNat - 48)) / 10 = val (a :: q) := by omega
        have e2 : (val (a :: q) * 10 + (b.toNat - 48)) % 10 = b.toNat - 48 := by omega
        rw [e1, e2, h1, ← byte_of hb]

/-! ### Is there a byte that is no digit? -/
theorem decode_low (s : ByteArray) (i : Nat) (h : (s.get! (i + 0)).toNat < 128) : Utf8.decode s i = ((s.get! (i + 0)).toNat, 1) := by
  unfold Utf8.decode
  simp only
  rw [if_pos h]
theorem decode_high (s : ByteArray) (i : Nat) (h : ¬ (s.get! (i + 0)).toNat < 128) : 128 ≤ (Utf8.decode s i).1 := by
  unfold Utf8.decode
  simp only
  rw [if_neg h]
  have e : (128 : Nat) ≤ Utf8.runeError := by decide
  repeat' split
  all_goals first | exact e | (rename_i h1; simp only [ge_iff_le, Bool.and_eq_true, decide_eq_true_eq] at h1; simp only; omega) | (rename_i h1; simp only [ge_iff_le, decide_eq_true_eq] at h1; simp only; omega)
theorem get_mk (l : List UInt8) (i : Nat) : (mk l).get! (i + 0) = l.getD i 0 := by
  show (l.toArray)[i + 0]! = l.getD i 0
  simp [List.getD_eq_getElem?_getD]
  rfl
def noD (x : Nat) : Bool := decide (x < 48) || decide (57 < x)
theorem idx_digits (l : List UInt8) : ∀ (f i : Nat), i + f = l.length → (∀ j, i ≤ j → j < l.length → isD (l.getD j 0) = true) → Lib.idxFuncFrom noD true (mk l) f i = -1 := by
  intro f
  induction f with
  | zero => intro i _ _; rfl
  | succ f ih =>
    intro i hi hd
    unfold Lib.idxFuncFrom
    rw [if_pos (by rw [mk_size]; omega)]
    have h := isD_iff.1 (hd i (Nat.le_refl _) (by omega))
    have hlow : ((mk l).get! (i + 0)).toNat < 128 := by rw [get_mk]; omega
    rw [decode_low _ _ hlow, get_mk]
    have hn : noD (l.getD i 0).toNat = false := by unfold noD; simp only [Bool.or_eq_false_iff, decide_eq_false_iff_not]; omega
    rw [hn]
    simp only [Bool.false_eq_true, if_false]
    exact ih (i + 1) (by omega) (fun j h1 h2 => hd j (by omega) h2)
theorem idx_other (l : List UInt8) : ∀ (f i : Nat), i + f = l.length → (∃ j, i ≤ j ∧ j < l.length ∧ isD (l.getD j 0) = false) → 0 ≤ Lib.idxFuncFrom noD true (mk l) f i := by
  intro f
  induction f with
  | zero => intro i hi ⟨j, h1, h2, _⟩; omega
  | succ f ih =>
    intro i hi hj
    unfold Lib.idxFuncFrom
    rw [if_pos (by rw [mk_size]; omega)]
    by_cases hd : isD (l.getD i 0) = true
    · have h := isD_iff.1 hd
      have hlow : ((mk l).get! (i + 0)).toNat < 128 := by rw [get_mk]; omega
      rw [decode_low _ _ hlow, get_mk]
      have hn : noD (l.getD i 0).toNat = false := by unfold noD; simp only [Bool.or_eq_false_iff, decide_eq_false_iff_not]; omega
      rw [hn]
      simp only [Bool.false_eq_true, if_false]
      refine ih (i + 1) (by omega) ?_
      obtain ⟨j, h1, h2, h3⟩ := hj
      refine ⟨j, ?_, h2, h3⟩
      rcases Nat.lt_or_ge i j with h4 | h4
      · exact h4
      · obtain rfl : j = i := by omega
        rw [hd] at h3; cases h3
    · have hn : noD (Utf8.decode (mk l) i).1 = true := by
        by_cases hlow : ((mk l).get! (i + 0)).toNat < 128
        · rw [decode_low _ _ hlow, get_mk]
          have : ¬ (48 ≤ (l.getD i 0).toNat ∧ (l.getD i 0).toNat ≤ 57) := fun h => hd (isD_iff.2 h)
          unfold noD
          simp only [Bool.or_eq_true, decide_eq_true_eq]
          omega
        · have := decode_high _ _ hlow
          unfold noD
          simp only [Bool.or_eq_true, decide_eq_true_eq]
          omega
      rw [hn]
      simp
theorem idx_iff (l : List UInt8) : 0 ≤ Lib.idxFunc noD true (mk l) ↔ ¬ ∀ b ∈ l, isD b = true := by
  unfold Lib.idxFunc
  rw [mk_size]
  constructor
  · intro h hall
    have := idx_digits l l.length 0 (by omega) (fun j _ hj => hall _ (by rw [List.getD_eq_getElem?_getD, List.getElem?_eq_getElem hj]; exact List.getElem_mem hj))
    omega
  · intro h
    apply idx_other l l.length 0 (by omega)
    apply Classical.byContradiction
    intro hn
    apply h
    intro b hb
    obtain ⟨j, hj, rfl⟩ := List.getElem_of_mem hb
    apply Classical.byContradiction
    intro hd
    refine hn ⟨j, by omega, hj, ?_⟩
    rw [List.getD_eq_getElem?_getD, List.getElem?_eq_getElem hj]
    simpa using hd

theorem decFrom_digits : ∀ (l : List UInt8) (acc : Nat), (∀ b ∈ l, isD b = true) → Lib.decFrom acc l = some (l.foldl (fun a b => a * 10 + (b.toNat - 48)) acc) := by
  intro l
  induction l with
  | nil => intro acc _; rfl
  | cons b r ih =>
    intro acc h
    have hb := isD_iff.1 (h b (by simp))
    unfold Lib.decFrom Lib.digitVal
    rw [if_pos hb]
    simp only [List.foldl_cons]
    exact ih _ (fun x hx => h x (by simp [hx]))
theorem atoi_digits (l : List UInt8) (hne : l ≠ []) (h : ∀ b ∈ l, isD b = true) : Lib.atoi l = some (val l : Int) := by
  cases l with
  | nil => exact absurd rfl hne
  | cons b r =>
    have hb := isD_iff.1 (h b (by simp))
    unfold Lib.atoi
    have e1 : (b == 45) = false := by rw [beq_eq_false_iff_ne]; rintro rfl; revert hb; decide
    have e2 : (b == 43) = false := by rw [beq_eq_false_iff_ne]; rintro rfl; revert hb; decide
    simp only [e1, e2, Bool.false_eq_true, if_false]
    unfold Lib.decNat
    simp only [List.isEmpty_cons, Bool.false_eq_true, if_false]
    rw [decFrom_digits (b :: r) 0 h]
    rfl
theorem itoa_nat (n : Nat) : Lib.itoa (n : Int) = dd n := by
  unfold Lib.itoa
  rw [if_neg (by omega)]
  rfl
theorem itoa_len (n : Int) (h0 : -9223372036854775808 ≤ n) (h1 : n ≤ 9223372036854775807) : (Lib.itoa n).length ≤ 21 := by
  unfold Lib.itoa
  split
  · have := dd_len (n := n.natAbs) (k := 20) (by omega) (by omega)
    unfold dd at this
    simp; omega
  · have := dd_len (n := n.toNat) (k := 20) (by omega) (by omega)
    unfold dd at this
    omega
end Go.Proofs.YtebioeboegmhlaaDoor.X
