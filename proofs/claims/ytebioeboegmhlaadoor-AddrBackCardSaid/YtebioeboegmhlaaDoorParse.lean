/- Which texts are prefixes: the program's parse. -/
import Derived.Test.YtebioeboegmhlaaDoorText
set_option linter.unusedVariables false
set_option linter.unusedSimpArgs false
namespace Go.Proofs.YtebioeboegmhlaaDoor.X
open Go.RowKit Go.Proofs.YtebioeboegmhlaaDoorW.PrintWords Go.Proofs.YtebioeboegmhlaaDoorW.PrintMore

/-- Behind a number: nothing, or no digit. -/
def Ends (r : List UInt8) : Prop := r = [] ∨ ∃ b q, r = b :: q ∧ isD b = false
theorem takeWhile_dd {n : Nat} {r : List UInt8} (h : Ends r) : (dd n ++ r).takeWhile isD = dd n := by
  rw [List.takeWhile_append_of_pos (dd_digits n)]
  rcases h with rfl | ⟨b, q, rfl, hb⟩
  · simp
  · simp [List.takeWhile_cons, hb]
theorem dd_split {a b : Nat} {r s : List UInt8} (hr : Ends r) (hs : Ends s) (h : dd a ++ r = dd b ++ s) : a = b ∧ r = s := by
  have h1 := congrArg (List.takeWhile isD) h
  rw [takeWhile_dd hr, takeWhile_dd hs] at h1
  have := dd_inj h1
  subst this
  exact ⟨rfl, List.append_cancel_left h⟩
theorem ends_dot (r : List UInt8) : Ends (46 :: r) := .inr ⟨46, r, rfl, by decide⟩
theorem ends_slash (r : List UInt8) : Ends (47 :: r) := .inr ⟨47, r, rfl, by decide⟩
theorem ends_nil : Ends [] := .inl rfl

theorem val_lt (l : List UInt8) (h : ∀ b ∈ l, isD b = true) : val l < 10 ^ l.length := by
  induction hn : l.length generalizing l with
  | zero => obtain rfl := List.eq_nil_of_length_eq_zero hn; decide
  | succ n ih =>
    rcases List.eq_nil_or_concat l with rfl | ⟨q, b, rfl⟩
    · simp at hn
    · rw [List.concat_eq_append] at *
      have hb := isD_iff.1 (h b (by simp))
      have hq := ih q (fun x hx => h x (by simp [hx])) (by simpa using hn)
      rw [val_snoc, Nat.pow_succ]
      omega
theorem isNone_noD : isNone = noD := rfl
theorem dd_len3 {n : Nat} (h : n < 1000) : (dd n).length ≤ 3 := by
  have e : (10 : Nat) ^ 3 = 1000 := by decide
  exact dd_len (by omega) (by decide)

/-! ### The program's number -/
theorem num_dd (v : Nat) (most : Int) (hv : v < 1000) : addr_number.f (mk (dd v)) most = some ((v : Int), decide ((v : Int) ≤ most)) := by
  have hl := dd_len3 (n := v) (by omega)
  have hp := dd_pos v
  unfold addr_number.f
  rw [mk_size, if_neg (by omega), if_neg (by omega)]
  have h3 : ¬ (1 < (dd v).length ∧ bt (mk (dd v)) 0 = 48) := by
    rintro ⟨h1, h2⟩
    by_cases h10 : v < 10
    · rw [dd_small h10] at h1; simp at h1
    · obtain ⟨b, r, e, hb⟩ := dd_front v (by omega)
      rw [bt_mk, e] at h2
      simp at h2
      omega
  rw [if_neg h3, isNone_noD]
  have h4 : ¬ 0 ≤ Lib.idxFunc noD true (mk (dd v)) := fun h => (idx_iff _).1 h (dd_digits v)
  rw [if_neg h4, mk_data, atoi_digits _ (dd_ne v) (dd_digits v), val_dd]
  rfl
theorem num_no (l : List UInt8) (most : Int) (h : ∀ v, v < 1000 → l ≠ dd v) : addr_number.f (mk l) most = some (0, false) := by
  unfold addr_number.f
  rw [mk_size]
  by_cases h0 : l.length = 0
  · rw [if_pos h0]
  rw [if_neg h0]
  by_cases h1 : 3 < l.length
  · rw [if_pos h1]
  rw [if_neg h1]
  by_cases h2 : 1 < l.length ∧ bt (mk l) 0 = 48
  · rw [if_pos h2]
  rw [if_neg h2, isNone_noD]
  by_cases h3 : 0 ≤ Lib.idxFunc noD true (mk l)
  · rw [if_pos h3]
  exfalso
  have hd : ∀ b ∈ l, isD b = true := by
    apply Classical.byContradiction
    intro hn
    exact h3 ((idx_iff l).2 hn)
  have hlt := val_lt l hd
  have hle : 10 ^ l.length ≤ 10 ^ 3 := Nat.pow_le_pow_right (by decide) (by omega)
  have e : (10 : Nat) ^ 3 = 1000 := by decide
  refine h (val l) (by omega) (dd_val l (fun e => h0 (by rw [e]; rfl)) hd ?_).symm
  by_cases h4 : l.length = 1
  · exact .inl h4
  · refine .inr ?_
    cases l with
    | nil => simp at h0
    | cons b r =>
      refine ⟨b, r, rfl, ?_⟩
      have hb := isD_iff.1 (hd b (by simp))
      have h5 : ¬ bt (mk (b :: r)) 0 = 48 := fun h6 => h2 ⟨by simp at h4 ⊢; exact Nat.pos_of_ne_zero (fun e => h4 (List.eq_nil_of_length_eq_zero e)), h6⟩
      rw [bt_mk] at h5
      simp at h5
      omega
theorem num_cases (l : List UInt8) (most : Int) : (∃ v : Nat, v < 1000 ∧ l = dd v ∧ addr_number.f (mk l) most = some ((v : Int), decide ((v : Int) ≤ most))) ∨ ((∀ v, v < 1000 → l ≠ dd v) ∧ addr_number.f (mk l) most = some (0, false)) := by
  by_cases h : ∃ v, v < 1000 ∧ l = dd v
  · obtain ⟨v, hv, rfl⟩ := h
    exact .inl ⟨v, hv, rfl, num_dd v most hv⟩
  · have h' : ∀ v, v < 1000 → l ≠ dd v := fun v hv e => h ⟨v, hv, e⟩
    exact .inr ⟨h', num_no l most h'⟩

structure IsTxt (l : List UInt8) (a b c d n : Nat) : Prop where
  eq : l = dd a ++ 46 :: (dd b ++ 46 :: (dd c ++ 46 :: (dd d ++ 47 :: dd n)))
  a : a ≤ 255
  b : b ≤ 255
  c : c ≤ 255
  d : d ≤ 255
  n : n ≤ 32
theorem IsTxt.unique {l : List UInt8} {a b c d n a' b' c' d' n' : Nat} (h : IsTxt l a b c d n) (h' : IsTxt l a' b' c' d' n') : a = a' ∧ b = b' ∧ c = c' ∧ d = d' ∧ n = n' := by
  have e := h.eq.symm.trans h'.eq
  obtain ⟨e1, e2⟩ := dd_split (ends_dot _) (ends_dot _) e
  obtain ⟨e3, e4⟩ := dd_split (ends_dot _) (ends_dot _) (List.cons.inj e2).2
  obtain ⟨e5, e6⟩ := dd_split (ends_dot _) (ends_dot _) (List.cons.inj e4).2
  obtain ⟨e7, e8⟩ := dd_split (ends_slash _) (ends_slash _) (List.cons.inj e6).2
  exact ⟨e1, e3, e5, e7, dd_inj (List.cons.inj e8).2⟩
def adr (a b c d : Nat) : Nat := ((a * 256 + b) * 256 + c) * 256 + d
theorem adr_U32 {a b c d : Nat} (ha : a ≤ 255) (hb : b ≤ 255) (hc : c ≤ 255) (hd : d ≤ 255) : U32 (adr a b c d : Int) := by
  unfold U32 adr; omega
def fin (a b c d n : Nat) : Option (Int × Int × Int) := if mayB (adr a b c d : Int) (n : Int) = true then some ((adr a b c d : Int), (n : Int), 0) else some (0, 0, 1)

/-! ### The program's parse -/
theorem dd_no (n : Nat) (b : UInt8) (h : isD b = false) : b ∉ dd n := fun hb => by
  rw [dd_digits n b hb] at h
  cases h
theorem or_next (x v : Nat) (hx : x < 16777216) (hv : v ≤ 255) : Go.bits .or .u32 (((x : Int) * 256) % 4294967296) (((v : Int)) % 4294967296) = ((x * 256 + v : Nat) : Int) := by
  have e1 : ((x : Int) * 256) % 4294967296 = ((x * 256 : Nat) : Int) := by omega
  have e2 : ((v : Int)) % 4294967296 = (v : Int) := by omega
  rw [e1, e2]
  have e32 : (2 : Nat) ^ 32 = 4294967296 := by decide
  have e8 : (2 : Nat) ^ 8 = 256 := by decide
  exact bits_or_low (x * 256) v 8 (by decide) (by omega) (by rw [e8]; exact Nat.mul_mod_left _ _) (by omega)

/-- One of the four numbers. -/
theorem pstep (ps : List (List UInt8)) (i : Nat) (p : List UInt8) (hp : ps[i]? = some p) (hlen : ps.length ≤ 100) (x : Nat) (hx : x < 16777216) (n : Int) (k : Nat) :
    (∃ v : Nat, p = dd v ∧ v ≤ 255 ∧ addr_Parse.l0 (k + 1) (ps.map mk) (ps.length : Int) (i : Int) (x : Int) n = addr_Parse.l0 k (ps.map mk) (ps.length : Int) ((i + 1 : Nat) : Int) ((x * 256 + v : Nat) : Int) n) ∨
    ((∀ v : Nat, v ≤ 255 → p ≠ dd v) ∧ addr_Parse.l0 (k + 1) (ps.map mk) (ps.length : Int) (i : Int) (x : Int) n = some (0, 0, 3)) := by
  have hi : i < ps.length := (List.getElem?_eq_some_iff.1 hp).1
  have hrd : rdOf ByteArray.empty (ps.map mk) (i : Int) = mk p := by
    unfold rdOf
    rw [Int.toNat_natCast, List.getD_eq_getElem?_getD, List.getElem?_map, hp]
    rfl
  rw [addr_Parse.l0, if_pos (by omega), if_pos (by omega), if_pos (by simp; omega), hrd]
  rcases num_cases p 255 with ⟨v, hv, rfl, hf⟩ | ⟨hno, hf⟩
  · rw [hf, Option.bind_some]
    by_cases h : v ≤ 255
    · refine .inl ⟨v, rfl, h, ?_⟩
      have e : decide ((v : Int) ≤ 255) = true := decide_eq_true (by omega)
      have hw : wrap64 ((i : Int) + 1) = ((i + 1 : Nat) : Int) := by rw [wrap64_id _ (by omega) (by omega)]; omega
      rw [e, if_pos rfl, hw, or_next x v hx h]
    · refine .inr ⟨fun v' hv' e => h (by rw [dd_inj e]; exact hv'), ?_⟩
      have e : decide ((v : Int) ≤ 255) = false := decide_eq_false (by omega)
      rw [e]
      rfl
  · rw [hf, Option.bind_some]
    exact .inr ⟨fun v hv e => hno v (by omega) e, rfl⟩

theorem Parse_f (l : List UInt8) (hl : l.length < 4294967281) (k : Nat) (hk : 10 ≤ k) :
    (∃ a b c d n, IsTxt l a b c d n ∧ addr_Parse.f k (mk l) = fin a b c d n) ∨ ((∀ a b c d n, ¬ IsTxt l a b c d n) ∧ addr_Parse.f k (mk l) = some (0, 0, 3)) := by
  obtain ⟨k, rfl⟩ : ∃ m, k = m + 6 := ⟨k - 6, by omega⟩
  have hcutf : strings_Cut.f (mk l) (⟨#[47]⟩ : ByteArray) = some (mk (Lib.cut l [47]).1, mk (Lib.cut l [47]).2.1, (Lib.cut l [47]).2.2) := by
    unfold strings_Cut.f
    rw [mk_size, if_pos hl, mk_data]
    rfl
  have hspl : ∀ h : List UInt8, h.length < 4294967281 → strings_Split.f (mk h) (⟨#[46]⟩ : ByteArray) = some ((spl 46 h).map mk) := by
    intro h hh
    unfold strings_Split.f
    rw [mk_size, if_pos ⟨hh, by decide⟩]
    exact congrArg some (splitB_spl 46 h)
  unfold addr_Parse.f
  rw [hcutf, Option.bind_some]
  rcases mem_cut 47 l with h47 | ⟨h, t, hh, rfl⟩
  · rw [cut_none 47 h47]
    simp only
    rw [hspl l hl, Option.bind_some]
    refine .inr ⟨fun a b c d n ht => h47 (by rw [ht.eq]; simp), ?_⟩
    rcases num_cases [] 32 with ⟨v, hv, he, hf⟩ | ⟨hno, hf⟩
    · rw [hf, Option.bind_some]
      simp [addr_Parse.j0]
    · rw [hf, Option.bind_some]
      simp [addr_Parse.j0]
  · rw [cut_app 47 hh t]
    simp only
    rw [hspl h (by simp at hl; omega), Option.bind_some]
    have hcut : ∀ a b c d n, IsTxt (h ++ 47 :: t) a b c d n → h = dd a ++ 46 :: (dd b ++ 46 :: (dd c ++ 46 :: dd d)) ∧ t = dd n := by
      intro a b c d n ht
      have e := ht.eq
      have e2 : h ++ 47 :: t = (dd a ++ 46 :: (dd b ++ 46 :: (dd c ++ 46 :: dd d))) ++ 47 :: dd n := by rw [e]; simp
      have hn : (47 : UInt8) ∉ (dd a ++ 46 :: (dd b ++ 46 :: (dd c ++ 46 :: dd d))) := by
        simp only [List.mem_append, List.mem_cons, not_or]
        exact ⟨dd_no a 47 (by decide), by decide, dd_no b 47 (by decide), by decide, dd_no c 47 (by decide), by decide, dd_no d 47 (by decide)⟩
      have h1 := cut_app 47 hh t
      rw [e2, cut_app 47 hn] at h1
      simp only [Prod.mk.injEq, and_true] at h1
      exact ⟨h1.1.symm, h1.2.symm⟩
    rcases num_cases t 32 with ⟨n, hn, rfl, hf⟩ | ⟨hno, hf⟩
    · rw [hf, Option.bind_some, if_pos trivial]
      simp only
      by_cases h32 : n ≤ 32
      · have e : decide ((n : Int) ≤ 32) = true := decide_eq_true (by omega)
        rw [e, if_pos rfl, addr_Parse.j0]
        by_cases h4 : (spl 46 h).length = 4
        · have e4 : ((((spl 46 h).map mk).length : Int) != 4) = false := by simp [h4]
          rw [e4, if_neg (by decide)]
          obtain ⟨p0, p1, p2, p3, hps⟩ : ∃ p0 p1 p2 p3, spl 46 h = [p0, p1, p2, p3] := by
            generalize spl 46 h = L at h4
            match L, h4 with
            | [p0, p1, p2, p3], _ => exact ⟨p0, p1, p2, p3, rfl⟩
          have hj := join_spl 46 h
          rw [hps] at hj ⊢
          simp only [join1] at hj
          have hlen4 : (([p0, p1, p2, p3].map mk).length : Int) = (([p0, p1, p2, p3] : List (List UInt8)).length : Int) := by simp
          rw [hlen4]
          have hbad : ∀ a b c d m, IsTxt (h ++ 47 :: dd n) a b c d m → p0 = dd a ∧ p1 = dd b ∧ p2 = dd c ∧ p3 = dd d := by
            intro a b c d m ht
            have h1 := (hcut a b c d m ht).1
            have h2 : spl 46 h = [dd a, dd b, dd c, dd d] := by
              rw [h1, spl_app 46 (dd_no a 46 (by decide)), spl_app 46 (dd_no b 46 (by decide)), spl_app 46 (dd_no c 46 (by decide)), spl_none 46 (dd_no d 46 (by decide))]
            rw [hps] at h2
            simp only [List.cons.injEq, and_true] at h2
            exact h2
          rcases pstep [p0, p1, p2, p3] 0 p0 rfl (by simp) 0 (by omega) (n : Int) (k + 4) with ⟨a, ea, ha, hs⟩ | ⟨hno, hs⟩
          · rw [show ((0 : Nat) : Int) = 0 from rfl] at hs
            rw [hs]
            rcases pstep [p0, p1, p2, p3] 1 p1 rfl (by simp) (0 * 256 + a) (by omega) (n : Int) (k + 3) with ⟨b, eb, hb, hs⟩ | ⟨hno, hs⟩
            · rw [hs]
              rcases pstep [p0, p1, p2, p3] 2 p2 rfl (by simp) ((0 * 256 + a) * 256 + b) (by omega) (n : Int) (k + 2) with ⟨c, ec, hc, hs⟩ | ⟨hno, hs⟩
              · rw [hs]
                rcases pstep [p0, p1, p2, p3] 3 p3 rfl (by simp) (((0 * 256 + a) * 256 + b) * 256 + c) (by omega) (n : Int) (k + 1) with ⟨d, ed, hd, hs⟩ | ⟨hno, hs⟩
                · rw [hs, addr_Parse.l0, if_neg (by simp)]
                  have eadr : ((((0 * 256 + a) * 256 + b) * 256 + c) * 256 + d : Nat) = adr a b c d := by unfold adr; omega
                  rw [eadr, May_f _ _ (adr_U32 ha hb hc hd), Option.bind_some]
                  refine .inl ⟨a, b, c, d, n, ⟨?_, ha, hb, hc, hd, h32⟩, rfl⟩
                  rw [← hj, ea, eb, ec, ed]
                  simp
                · rw [hs]
                  exact .inr ⟨fun a' b' c' d' n' ht => hno d' ht.d (hbad _ _ _ _ _ ht).2.2.2, rfl⟩
              · rw [hs]
                exact .inr ⟨fun a' b' c' d' n' ht => hno c' ht.c (hbad _ _ _ _ _ ht).2.2.1, rfl⟩
            · rw [hs]
              exact .inr ⟨fun a' b' c' d' n' ht => hno b' ht.b (hbad _ _ _ _ _ ht).2.1, rfl⟩
          · rw [show ((0 : Nat) : Int) = 0 from rfl] at hs
            rw [hs]
            exact .inr ⟨fun a' b' c' d' n' ht => hno a' ht.a (hbad _ _ _ _ _ ht).1, rfl⟩
        · have e4 : ((((spl 46 h).map mk).length : Int) != 4) = true := by rw [bne_iff_ne]; simp; omega
          rw [e4, if_pos rfl]
          refine .inr ⟨fun a b c d m ht => h4 ?_, rfl⟩
          have h1 := (hcut a b c d m ht).1
          rw [h1, spl_app 46 (dd_no a 46 (by decide)), spl_app 46 (dd_no b 46 (by decide)), spl_app 46 (dd_no c 46 (by decide)), spl_none 46 (dd_no d 46 (by decide))]
          rfl
      · have e : decide ((n : Int) ≤ 32) = false := decide_eq_false (by omega)
        rw [e, if_neg (by decide), addr_Parse.j0, if_pos rfl]
        refine .inr ⟨fun a b c d m ht => h32 ?_, rfl⟩
        rw [dd_inj (hcut a b c d m ht).2]
        exact ht.n
    · rw [hf, Option.bind_some, if_pos trivial]
      simp only [Bool.false_eq_true, if_false]
      rw [addr_Parse.j0, if_pos rfl]
      exact .inr ⟨fun a b c d m ht => hno m (by have := ht.n; omega) (hcut a b c d m ht).2, rfl⟩

/-- A text that is a prefix is what that prefix is written as. -/
theorem txt_of {l : List UInt8} {a b c d n : Nat} (h : IsTxt l a b c d n) : txtOf (adr a b c d : Int) (n : Int) = l := by
  have := h.a
  have := h.b
  have := h.c
  have := h.d
  unfold txtOf txt oc adr
  rw [Int.toNat_natCast, itoa_nat, h.eq]
  have p24 : (2 : Nat) ^ 24 = 16777216 := by decide
  have p16 : (2 : Nat) ^ 16 = 65536 := by decide
  have p8 : (2 : Nat) ^ 8 = 256 := by decide
  have p0 : (2 : Nat) ^ 0 = 1 := by decide
  have e1 : (((a * 256 + b) * 256 + c) * 256 + d) / 2 ^ 24 % 256 = a := by rw [p24]; omega
  have e2 : (((a * 256 + b) * 256 + c) * 256 + d) / 2 ^ 16 % 256 = b := by rw [p16]; omega
  have e3 : (((a * 256 + b) * 256 + c) * 256 + d) / 2 ^ 8 % 256 = c := by rw [p8]; omega
  have e4 : (((a * 256 + b) * 256 + c) * 256 + d) / 2 ^ 0 % 256 = d := by rw [p0]; omega
  rw [e1, e2, e3, e4]
theorem txt_is (A N : Int) (hA : U32 A) (h0 : 0 ≤ N) (h1 : N ≤ 32) : IsTxt (txtOf A N) (oc A.toNat 24) (oc A.toNat 16) (oc A.toNat 8) (oc A.toNat 0) N.toNat ∧ (adr (oc A.toNat 24) (oc A.toNat 16) (oc A.toNat 8) (oc A.toNat 0) : Int) = A := by
  obtain ⟨a, rfl, ha⟩ := hA.nat
  obtain ⟨n, rfl⟩ := Int.eq_ofNat_of_zero_le h0
  have b1 := oc_lt a 24
  have b2 := oc_lt a 16
  have b3 := oc_lt a 8
  have b4 := oc_lt a 0
  refine ⟨⟨?_, ?_, ?_, ?_, ?_, ?_⟩, ?_⟩
  · unfold txtOf txt
    rw [Int.toNat_natCast, Int.toNat_natCast, itoa_nat]
  all_goals try (simp only [Int.toNat_natCast]; omega)
  have p24 : (2 : Nat) ^ 24 = 16777216 := by decide
  have p16 : (2 : Nat) ^ 16 = 65536 := by decide
  have p8 : (2 : Nat) ^ 8 = 256 := by decide
  have p0 : (2 : Nat) ^ 0 = 1 := by decide
  have p32 : (2 : Nat) ^ 32 = 4294967296 := by decide
  rw [p32] at ha
  simp only [Int.toNat_natCast]
  unfold adr oc
  rw [p24, p16, p8, p0]
  omega
end Go.Proofs.YtebioeboegmhlaaDoor.X
