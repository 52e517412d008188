/- Which texts are prefixes: the program's parse and the reference's are one. -/
import Derived.Test.YtebioeboegmhlaaDoorText
import Derived.Test.YtebioeboegmhlaaDoorXx5
set_option linter.unusedVariables false
set_option linter.unusedSimpArgs false
namespace Go.Proofs.YtebioeboegmhlaaDoor.X
open Go.RowKit Go.Proofs.YtebioeboegmhlaaDoorW.PrintWords Go.Proofs.YtebioeboegmhlaaDoorW.PrintMore

/-- Behind a number: nothing, or no digit. -/
def Ends (r : List UInt8) : Prop := r = [] ∨ ∃ b q, r = b :: q ∧ isD b = false
theorem takeWhile_dd {n : Nat} {r : List UInt8} (h : Ends r) : (dd n ++ r).takeWhile isD = dd n := by
  rw [List.takeWhile_append_of_pos (dd_digits n)]
  rcases h with rfl | ⟨b, q, rfl, hb⟩
  · simp
  · simp [List.takeWhile_cons, hb]
theorem dd_split {a b : Nat} {r s : List UInt8} (hr : Ends r) (hs : Ends s) (h : dd a ++ r = dd b ++ s) : a = b ∧ r = s := by
  have h1 := congrArg (List.takeWhile isD) h
  rw [takeWhile_dd hr, takeWhile_dd hs] at h1
  have := dd_inj h1
  subst this
  exact ⟨rfl, List.append_cancel_left h⟩
theorem ends_dot (r : List UInt8) : Ends (46 :: r) := .inr ⟨46, r, rfl, by decide⟩
theorem ends_slash (r : List UInt8) : Ends (47 :: r) := .inr ⟨47, r, rfl, by decide⟩
theorem ends_nil : Ends [] := .inl rfl

theorem val_lt (l : List UInt8) (h : ∀ b ∈ l, isD b = true) : val l < 10 ^ l.length := by
  induction hn : l.length generalizing l with
  | zero => obtain rfl := List.eq_nil_of_length_eq_zero hn; decide
  | succ n ih =>
    rcases List.eq_nil_or_concat l with rfl | ⟨q, b, rfl⟩
    · simp at hn
    · rw [List.concat_eq_append] at *
      have hb := isD_iff.1 (h b (by simp))
      have hq := ih q (fun x hx => h x (by simp [hx])) (by simpa using hn)
      rw [val_snoc, Nat.pow_succ]
      omega
theorem isNone_noD : isNone = noD := rfl
theorem dd_len3 {n : Nat} (h : n < 1000) : (dd n).length ≤ 3 := by
  have e : (10 : Nat) ^ 3 = 1000 := by decide
  exact dd_len (by omega) (by decide)

/-! ### The program's number -/
theorem num_dd (v : Nat) (most : Int) (hv : v < 1000) : addr_number.f (mk (dd v)) most = some ((v : Int), decide ((v : Int) ≤ most)) := by
  have hl := dd_len3 (n := v) (by omega)
  have hp := dd_pos v
  unfold addr_number.f
  rw [mk_size, if_neg (by omega), if_neg (by omega)]
  have h3 : ¬ (1 < (dd v).length ∧ bt (mk (dd v)) 0 = 48) := by
    rintro ⟨h1, h2⟩
    by_cases h10 : v < 10
    · rw [dd_small h10] at h1; simp at h1
    · obtain ⟨b, r, e, hb⟩ := dd_front v (by omega)
      rw [bt_mk, e] at h2
      simp at h2
      omega
  rw [if_neg h3, isNone_noD]
  have h4 : ¬ 0 ≤ Lib.idxFunc noD true (mk (dd v)) := fun h => (idx_iff _).1 h (dd_digits v)
  rw [if_neg h4, mk_data, atoi_digits _ (dd_ne v) (dd_digits v), val_dd]
  rfl
theorem num_no (l : List UInt8) (most : Int) (h : ∀ v, v < 1000 → l ≠ dd v) : addr_number.f (mk l) most = some (0, false) := by
  unfold addr_number.f
  rw [mk_size]
  by_cases h0 : l.length = 0
  · rw [if_pos h0]
  rw [if_neg h0]
  by_cases h1 : 3 < l.length
  · rw [if_pos h1]
  rw [if_neg h1]
  by_cases h2 : 1 < l.length ∧ bt (mk l) 0 = 48
  · rw [if_pos h2]
  rw [if_neg h2, isNone_noD]
  by_cases h3 : 0 ≤ Lib.idxFunc noD true (mk l)
  · rw [if_pos h3]
  exfalso
  have hd : ∀ b ∈ l, isD b = true := by
    apply Classical.byContradiction
    intro hn
    exact h3 ((idx_iff l).2 hn)
  have hlt := val_lt l hd
  have hle : 10 ^ l.length ≤ 10 ^ 3 := Nat.pow_le_pow_right (by decide) (by omega)
  have e : (10 : Nat) ^ 3 = 1000 := by decide
  refine h (val l) (by omega) (dd_val l (fun e => h0 (by rw [e]; rfl)) hd ?_).symm
  by_cases h4 : l.length = 1
  · exact .inl h4
  · refine .inr ?_
    cases l with
    | nil => simp at h0
    | cons b r =>
      refine ⟨b, r, rfl, ?_⟩
      have hb := isD_iff.1 (hd b (by simp))
      have h5 : ¬ bt (mk (b :: r)) 0 = 48 := fun h6 => h2 ⟨by simp at h4 ⊢; exact Nat.pos_of_ne_zero (fun e => h4 (List.eq_nil_of_length_eq_zero e)), h6⟩
      rw [bt_mk] at h5
      simp at h5
      omega
theorem num_cases (l : List UInt8) (most : Int) : (∃ v : Nat, v < 1000 ∧ l = dd v ∧ addr_number.f (mk l) most = some ((v : Int), decide ((v : Int) ≤ most))) ∨ ((∀ v, v < 1000 → l ≠ dd v) ∧ addr_number.f (mk l) most = some (0, false)) := by
  by_cases h : ∃ v, v < 1000 ∧ l = dd v
  · obtain ⟨v, hv, rfl⟩ := h
    exact .inl ⟨v, hv, rfl, num_dd v most hv⟩
  · have h' : ∀ v, v < 1000 → l ≠ dd v := fun v hv e => h ⟨v, hv, e⟩
    exact .inr ⟨h', num_no l most h'⟩

/-! ### The reference's number -/
def numEnd (l : List UInt8) (most n i : Int) : Option (Int × Int) :=
  if i = 0 then some (0, 0) else if i > 1 then (if bt (mk l) 0 = 48 then some (0, 0) else if n > most then some (0, 0) else some (n, i)) else if n > most then some (0, 0) else some (n, i)
theorem rnum_l0 (l : List UInt8) (most : Int) (m : Nat) (h4 : m ≤ 4) (hl : m ≤ l.length) (hd : ∀ j, j < m → isD (l.getD j 0) = true) (he : m = 4 ∨ m = l.length ∨ isD (l.getD m 0) = false) :
    ∀ (d k i : Nat), m - i = d → i ≤ m → d < k → crossroadsref03_number.l0 k (mk l) most (val (l.take i) : Int) (i : Int) = numEnd l most (val (l.take m) : Int) (m : Int) := by
  intro d
  induction d with
  | zero =>
    intro k i hi hm hk
    obtain rfl : i = m := by omega
    obtain ⟨k, rfl⟩ : ∃ m, k = m + 1 := ⟨k - 1, by omega⟩
    have hend : (if (i : Int) = 0 then some (0, 0) else (if (i : Int) > 1 then (if 0 < ((mk l).size : Int) then (if (bt (mk l) 0) = 48 then some (0, 0) else (if (val (l.take i) : Int) > most then some (0, 0) else some ((val (l.take i) : Int), (i : Int)))) else none) else (if (val (l.take i) : Int) > most then some (0, 0) else some ((val (l.take i) : Int), (i : Int))))) = numEnd l most (val (l.take i) : Int) (i : Int) := by
      unfold numEnd
      by_cases h0 : (i : Int) = 0
      · rw [if_pos h0, if_pos h0]
      · rw [if_neg h0, if_neg h0]
        by_cases h1 : (i : Int) > 1
        · rw [if_pos h1, if_pos h1, if_pos (by rw [mk_size]; omega)]
        · rw [if_neg h1, if_neg h1]
    simp only [crossroadsref03_number.l0]
    rw [mk_size] at hend ⊢
    by_cases hs : (i : Int) < (l.length : Int)
    · rw [if_pos hs, if_pos (by omega), bt_mk, Int.toNat_natCast]
      by_cases hdg : isD (l.getD i 0) = true
      · have := isD_iff.1 hdg
        rw [if_pos (by omega), if_pos (by omega)]
        rcases he with h | h | h
        · rw [if_neg (by omega)]; exact hend
        · omega
        · rw [hdg] at h; cases h
      · by_cases h48 : ((l.getD i 0).toNat : Int) ≥ 48
        · have h57 : ¬ ((l.getD i 0).toNat : Int) ≤ 57 := fun h => hdg (isD_iff.2 ⟨by omega, by omega⟩)
          rw [if_pos h48, if_neg h57]; exact hend
        · rw [if_neg h48]; exact hend
    · rw [if_neg hs]; exact hend
  | succ d ih =>
    intro k i hi hm hk
    obtain ⟨k, rfl⟩ : ∃ m, k = m + 1 := ⟨k - 1, by omega⟩
    have f1 : m - (i + 1) = d := by omega
    have f2 : i + 1 ≤ m := by omega
    have f3 : d < k := by omega
    have hdg := isD_iff.1 (hd i (by omega))
    simp only [crossroadsref03_number.l0]
    rw [mk_size, if_pos (by omega), if_pos (by omega), bt_mk, Int.toNat_natCast, if_pos (by omega), if_pos (by omega), if_pos (by omega)]
    have hlt : i < l.length := by omega
    have hv : val (l.take (i + 1)) = val (l.take i) * 10 + ((l.getD i 0).toNat - 48) := by
      rw [List.take_succ_eq_append_getElem hlt, val_snoc, List.getD_eq_getElem?_getD, List.getElem?_eq_getElem hlt]
      rfl
    have hb : val (l.take i) < 10000 := by
      have h1 := val_lt (l.take i) (fun b hb => by
        obtain ⟨j, hj, rfl⟩ := List.getElem_of_mem hb
        have hj' : j < i := by rw [List.length_take] at hj; omega
        have := hd j (by omega)
        rw [List.getD_eq_getElem?_getD, List.getElem?_eq_getElem (by omega)] at this
        simpa using this)
      have h2 : (l.take i).length ≤ 4 := by rw [List.length_take]; omega
      have h3 : 10 ^ (l.take i).length ≤ 10 ^ 4 := Nat.pow_le_pow_right (by decide) h2
      have e : (10 : Nat) ^ 4 = 10000 := by decide
      omega
    have e1 : wrap64 (wrap64 ((val (l.take i) : Int) * 10) + ((((l.getD i 0).toNat : Int) - 48) % 256)) = (val (l.take (i + 1)) : Int) := by
      rw [hv]
      clear hv ih
      generalize val (l.take i) = V at *
      generalize (l.getD i 0).toNat = D at *
      rw [wrap64_id ((V : Int) * 10) (by omega) (by omega), wrap64_id _ (by omega) (by omega)]
      omega
    have e2 : wrap64 ((i : Int) + 1) = ((i + 1 : Nat) : Int) := by rw [wrap64_id _ (by omega) (by omega)]; omega
    rw [e1, e2]
    exact ih k (i + 1) f1 f2 f3

theorem scan_of (p : Nat → Bool) (n : Nat) : ∀ d, ∃ m, m ≤ d ∧ m ≤ n ∧ (∀ j, j < m → p j = true) ∧ (m = d ∨ m = n ∨ p m = false) := by
  intro d
  induction d with
  | zero => exact ⟨0, Nat.le_refl _, Nat.zero_le _, fun j hj => absurd hj (Nat.not_lt_zero j), .inl rfl⟩
  | succ d ih =>
    obtain ⟨m, h1, h2, h3, h4⟩ := ih
    rcases h4 with h4 | h4 | h4
    · by_cases h5 : m = n
      · exact ⟨m, by omega, h2, h3, .inr (.inl h5)⟩
      · cases h6 : p m with
        | false => exact ⟨m, by omega, h2, h3, .inr (.inr h6)⟩
        | true =>
          refine ⟨m + 1, by omega, by omega, fun j hj => ?_, .inl (by omega)⟩
          by_cases h7 : j = m
          · rw [h7]; exact h6
          · exact h3 j (by omega)
    · exact ⟨m, by omega, h2, h3, .inr (.inl h4)⟩
    · exact ⟨m, by omega, h2, h3, .inr (.inr h4)⟩
theorem scan (l : List UInt8) : ∃ m, m ≤ 4 ∧ m ≤ l.length ∧ (∀ j, j < m → isD (l.getD j 0) = true) ∧ (m = 4 ∨ m = l.length ∨ isD (l.getD m 0) = false) :=
  scan_of (fun j => isD (l.getD j 0)) l.length 4

theorem rnum_cases (l : List UInt8) (most : Int) (hm : 0 ≤ most ∧ most ≤ 255) (k : Nat) (hk : 10 ≤ k) :
    (∃ (v : Nat) (r : List UInt8), l = dd v ++ r ∧ (v : Int) ≤ most ∧ Ends r ∧ crossroadsref03_number.f k (mk l) most = some ((v : Int), ((dd v).length : Int))) ∨
    ((∀ (v : Nat) (r : List UInt8), l = dd v ++ r → (v : Int) ≤ most → Ends r → False) ∧ crossroadsref03_number.f k (mk l) most = some (0, 0)) := by
  obtain ⟨m, h1, h2, h3, h4⟩ := scan l
  have hf : crossroadsref03_number.f k (mk l) most = numEnd l most (val (l.take m) : Int) (m : Int) := by
    unfold crossroadsref03_number.f
    have := rnum_l0 l most m h1 h2 h3 h4 m k 0 (by omega) (by omega) (by omega)
    simpa [val] using this
  have hdig : ∀ b ∈ l.take m, isD b = true := by
    intro b hb
    obtain ⟨j, hj, rfl⟩ := List.getElem_of_mem hb
    have hj' : j < m := by rw [List.length_take] at hj; omega
    have := h3 j hj'
    rw [List.getD_eq_getElem?_getD, List.getElem?_eq_getElem (by omega)] at this
    simpa using this
  have hlen : (l.take m).length = m := by rw [List.length_take]; omega
  have hends : m ≠ 4 → Ends (l.drop m) := by
    intro hm4
    rcases h4 with h | h | h
    · exact absurd h hm4
    · exact .inl (List.drop_eq_nil_of_le (by omega))
    · rcases Nat.lt_or_ge m l.length with h5 | h5
      · refine .inr ⟨l[m], l.drop (m + 1), List.drop_eq_getElem_cons h5, ?_⟩
        rw [List.getD_eq_getElem?_getD, List.getElem?_eq_getElem h5] at h
        simpa using h
      · exact .inl (List.drop_eq_nil_of_le h5)
  -- what a number that fits forces
  have hfit : ∀ (v : Nat) (r : List UInt8), l = dd v ++ r → (v : Int) ≤ most → Ends r → m = (dd v).length := by
    intro v r hl hv hr
    have hle := dd_len3 (n := v) (by omega)
    rcases Nat.lt_trichotomy m (dd v).length with h | h | h
    · exfalso
      have hd : isD (l.getD m 0) = true := by
        rw [hl, List.getD_eq_getElem?_getD, List.getElem?_append_left h, List.getElem?_eq_getElem h]
        exact dd_digits v _ (List.getElem_mem h)
      rcases h4 with h5 | h5 | h5
      · omega
      · rw [hl] at h5; simp at h5; omega
      · rw [hd] at h5; cases h5
    · exact h
    · exfalso
      have hd := h3 (dd v).length h
      rcases hr with rfl | ⟨b, q, rfl, hb⟩
      · rw [hl] at h2; simp at h2; omega
      · rw [hl, List.getD_eq_getElem?_getD, List.getElem?_append_right (Nat.le_refl _)] at hd
        simp [hb] at hd
  by_cases hex : ∃ (v : Nat) (r : List UInt8), l = dd v ++ r ∧ (v : Int) ≤ most ∧ Ends r
  · obtain ⟨v, r, hl, hv, hr⟩ := hex
    refine .inl ⟨v, r, hl, hv, hr, ?_⟩
    have hmv := hfit v r hl hv hr
    have ht : l.take m = dd v := by rw [hl, hmv]; simp
    have hp := dd_pos v
    rw [hf, ht, val_dd, hmv]
    unfold numEnd
    rw [if_neg (by omega)]
    by_cases h5 : ((dd v).length : Int) > 1
    · rw [if_pos h5, if_neg, if_neg (by omega)]
      by_cases h10 : v < 10
      · rw [dd_small h10] at h5; simp at h5
      · obtain ⟨b, q, e, hb⟩ := dd_front v (by omega)
        rw [bt_mk, hl, e]
        simp
        omega
    · rw [if_neg h5, if_neg (by omega)]
  · refine .inr ⟨fun v r a b c => hex ⟨v, r, a, b, c⟩, ?_⟩
    rw [hf]
    unfold numEnd
    by_cases h0 : (m : Int) = 0
    · rw [if_pos h0]
    rw [if_neg h0]
    have hcontra : (m = 1 ∨ ¬ bt (mk l) 0 = 48) → ¬ (val (l.take m) : Int) > most → False := by
      intro hfr hle
      have hne : l.take m ≠ [] := fun e => by rw [e] at hlen; simp at hlen; omega
      have hfront : (l.take m).length = 1 ∨ ∃ b r, l.take m = b :: r ∧ 49 ≤ b.toNat := by
        rcases hfr with h | h
        · exact .inl (by rw [hlen, h])
        · cases l with
          | nil => simp at hne
          | cons b q =>
            obtain ⟨j, rfl⟩ : ∃ j, m = j + 1 := ⟨m - 1, by omega⟩
            refine .inr ⟨b, q.take j, rfl, ?_⟩
            have hb := isD_iff.1 (hdig b (by simp))
            rw [bt_mk] at h
            simp at h
            omega
      have hval := dd_val (l.take m) hne hdig hfront
      by_cases hm4 : m = 4
      · have h6 := dd_len3 (n := val (l.take m)) (by omega)
        rw [hval, hlen] at h6
        omega
      · exact hex ⟨val (l.take m), l.drop m, by rw [hval]; exact (List.take_append_drop m l).symm, by omega, hends hm4⟩
    by_cases h1 : (m : Int) > 1
    · rw [if_pos h1]
      by_cases h48 : bt (mk l) 0 = 48
      · rw [if_pos h48]
      · rw [if_neg h48]
        by_cases hgt : (val (l.take m) : Int) > most
        · rw [if_pos hgt]
        · exact (hcontra (.inr h48) hgt).elim
    · rw [if_neg h1]
      by_cases hgt : (val (l.take m) : Int) > most
      · rw [if_pos hgt]
      · exact (hcontra (.inl (by omega)) hgt).elim
end Go.Proofs.YtebioeboegmhlaaDoor.X
