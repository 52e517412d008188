/- Which texts are prefixes: the two parses, whole. -/
import Derived.Test.YtebioeboegmhlaaDoorParse
set_option linter.unusedVariables false
set_option linter.unusedSimpArgs false
namespace Go.Proofs.YtebioeboegmhlaaDoor.X
open Go.RowKit Go.Proofs.YtebioeboegmhlaaDoorW.PrintWords Go.Proofs.YtebioeboegmhlaaDoorW.PrintMore

structure IsTxt (l : List UInt8) (a b c d n : Nat) : Prop where
  eq : l = dd a ++ 46 :: (dd b ++ 46 :: (dd c ++ 46 :: (dd d ++ 47 :: dd n)))
  a : a ≤ 255
  b : b ≤ 255
  c : c ≤ 255
  d : d ≤ 255
  n : n ≤ 32
theorem IsTxt.unique {l : List UInt8} {a b c d n a' b' c' d' n' : Nat} (h : IsTxt l a b c d n) (h' : IsTxt l a' b' c' d' n') : a = a' ∧ b = b' ∧ c = c' ∧ d = d' ∧ n = n' := by
  have e := h.eq.symm.trans h'.eq
  obtain ⟨e1, e2⟩ := dd_split (ends_dot _) (ends_dot _) e
  obtain ⟨e3, e4⟩ := dd_split (ends_dot _) (ends_dot _) (List.cons.inj e2).2
  obtain ⟨e5, e6⟩ := dd_split (ends_dot _) (ends_dot _) (List.cons.inj e4).2
  obtain ⟨e7, e8⟩ := dd_split (ends_slash _) (ends_slash _) (List.cons.inj e6).2
  exact ⟨e1, e3, e5, e7, dd_inj (List.cons.inj e8).2⟩
def adr (a b c d : Nat) : Nat := ((a * 256 + b) * 256 + c) * 256 + d
theorem adr_U32 {a b c d : Nat} (ha : a ≤ 255) (hb : b ≤ 255) (hc : c ≤ 255) (hd : d ≤ 255) : U32 (adr a b c d : Int) := by
  unfold U32 adr; omega
def fin (a b c d n : Nat) : Option (Int × Int × Int) := if mayB (adr a b c d : Int) (n : Int) = true then some ((adr a b c d : Int), (n : Int), 0) else some (0, 0, 1)

theorem drop_mid (v : Nat) (b : UInt8) (q : List UInt8) : (dd v ++ b :: q).drop ((dd v).length + 1) = q := by
  rw [show dd v ++ b :: q = (dd v ++ [b]) ++ q by simp, show (dd v).length + 1 = (dd v ++ [b]).length by simp, List.drop_left]
/-! ### The reference's parse -/
theorem rstep_dot (l : List UInt8) (acc i : Int) (hi0 : 0 ≤ i) (hi : i < 3) (k : Nat) (hk : 10 ≤ k) :
    (∃ (v : Nat) (r : List UInt8), l = dd v ++ 46 :: r ∧ v ≤ 255 ∧ crossroadsref03_Parse.l0 (k + 1) (mk l) acc i = crossroadsref03_Parse.l0 k (mk r) ((((acc * 256) % 4294967296) + ((v : Int) % 4294967296)) % 4294967296) (wrap64 (i + 1))) ∨
    ((∀ (v : Nat) (r : List UInt8), v ≤ 255 → l ≠ dd v ++ 46 :: r) ∧ crossroadsref03_Parse.l0 (k + 1) (mk l) acc i = some (0, 0, 3)) := by
  rw [crossroadsref03_Parse.l0, if_pos (by omega)]
  rcases rnum_cases l 255 (by omega) k hk with ⟨v, r, hl, hv, hr, hf⟩ | ⟨hno, hf⟩
  · have hp := dd_pos v
    have hl3 := dd_len3 (n := v) (by omega)
    rw [hf, Option.bind_some, if_neg (by omega)]
    simp only
    rw [if_neg (by omega), mk_size]
    rcases hr with rfl | ⟨b, q, rfl, hb⟩
    · refine .inr ⟨fun v' r' hv' e => ?_, ?_⟩
      · rw [hl] at e
        have := (dd_split ends_nil (ends_dot _) e).2
        cases this
      · rw [if_pos (by rw [hl]; simp)]
    · have hlen : l.length = (dd v).length + (q.length + 1) := by rw [hl]; simp
      have hbt : bt (mk l) ((dd v).length : Int) = (b.toNat : Int) := by
        rw [bt_mk, Int.toNat_natCast, hl, List.getD_eq_getElem?_getD, List.getElem?_append_right (Nat.le_refl _)]
        simp
      rw [if_neg (by omega), if_pos (by omega), if_pos (by omega), hbt]
      by_cases h46 : b = 46
      · subst h46
        refine .inl ⟨v, q, hl, by omega, ?_⟩
        have hw : wrap64 (((dd v).length : Int) + 1) = ((((dd v).length + 1 : Nat)) : Int) := by rw [wrap64_id _ (by omega) (by omega)]; omega
        rw [if_pos (by decide), hw, if_pos (by omega), if_pos (by omega), Int.toNat_natCast]
        have hx : (mk l).extract ((dd v).length + 1) l.length = mk q := by
          have := mk_drop l ((dd v).length + 1)
          rw [mk_size] at this
          rw [this, hl]
          congr 1
          exact drop_mid v 46 q
        rw [hx]
      · refine .inr ⟨fun v' r' hv' e => ?_, ?_⟩
        · rw [hl] at e
          have := (dd_split (.inr ⟨b, q, rfl, hb⟩) (ends_dot _) e).2
          exact h46 (List.cons.inj this).1
        · rw [if_neg]
          intro e
          apply h46
          apply UInt8.toNat_inj.1
          have : b.toNat = 46 := by omega
          rw [this]
          rfl
  · refine .inr ⟨fun v r hv e => hno v _ e (by omega) (ends_dot _), ?_⟩
    rw [hf, Option.bind_some, if_neg (by omega)]
    simp
theorem rstep_slash (l : List UInt8) (acc : Int) (k : Nat) (hk : 10 ≤ k) :
    (∃ (v : Nat) (r : List UInt8), l = dd v ++ 47 :: r ∧ v ≤ 255 ∧ crossroadsref03_Parse.l0 (k + 1) (mk l) acc 3 = crossroadsref03_Parse.l0 k (mk r) ((((acc * 256) % 4294967296) + ((v : Int) % 4294967296)) % 4294967296) (wrap64 (3 + 1))) ∨
    ((∀ (v : Nat) (r : List UInt8), v ≤ 255 → l ≠ dd v ++ 47 :: r) ∧ crossroadsref03_Parse.l0 (k + 1) (mk l) acc 3 = some (0, 0, 3)) := by
  rw [crossroadsref03_Parse.l0, if_pos (by decide)]
  rcases rnum_cases l 255 (by omega) k hk with ⟨v, r, hl, hv, hr, hf⟩ | ⟨hno, hf⟩
  · have hp := dd_pos v
    have hl3 := dd_len3 (n := v) (by omega)
    rw [hf, Option.bind_some, if_pos rfl]
    simp only
    rw [if_neg (by omega), mk_size]
    rcases hr with rfl | ⟨b, q, rfl, hb⟩
    · refine .inr ⟨fun v' r' hv' e => ?_, ?_⟩
      · rw [hl] at e
        have := (dd_split ends_nil (ends_slash _) e).2
        cases this
      · rw [if_pos (by rw [hl]; simp)]
    · have hlen : l.length = (dd v).length + (q.length + 1) := by rw [hl]; simp
      have hbt : bt (mk l) ((dd v).length : Int) = (b.toNat : Int) := by
        rw [bt_mk, Int.toNat_natCast, hl, List.getD_eq_getElem?_getD, List.getElem?_append_right (Nat.le_refl _)]
        simp
      rw [if_neg (by omega), if_pos (by omega), if_pos (by omega), hbt]
      by_cases h47 : b = 47
      · subst h47
        refine .inl ⟨v, q, hl, by omega, ?_⟩
        have hw : wrap64 (((dd v).length : Int) + 1) = ((((dd v).length + 1 : Nat)) : Int) := by rw [wrap64_id _ (by omega) (by omega)]; omega
        rw [if_pos (by decide), hw, if_pos (by omega), if_pos (by omega), Int.toNat_natCast]
        have hx : (mk l).extract ((dd v).length + 1) l.length = mk q := by
          have := mk_drop l ((dd v).length + 1)
          rw [mk_size] at this
          rw [this, hl]
          congr 1
          exact drop_mid v 47 q
        rw [hx]
      · refine .inr ⟨fun v' r' hv' e => ?_, ?_⟩
        · rw [hl] at e
          have := (dd_split (.inr ⟨b, q, rfl, hb⟩) (ends_slash _) e).2
          exact h47 (List.cons.inj this).1
        · rw [if_neg]
          intro e
          apply h47
          apply UInt8.toNat_inj.1
          have : b.toNat = 47 := by omega
          rw [this]
          rfl
  · refine .inr ⟨fun v r hv e => hno v _ e (by omega) (ends_slash _), ?_⟩
    rw [hf, Option.bind_some, if_pos rfl]
    simp

theorem rfinal (l : List UInt8) (acc : Int) (hacc : U32 acc) (k : Nat) (hk : 60 ≤ k) :
    (∃ n : Nat, l = dd n ∧ n ≤ 32 ∧ crossroadsref03_Parse.l0 (k + 1) (mk l) acc 4 = if mayB acc (n : Int) = true then some (acc, (n : Int), 0) else some (0, 0, 1)) ∨
    ((∀ n : Nat, n ≤ 32 → l ≠ dd n) ∧ crossroadsref03_Parse.l0 (k + 1) (mk l) acc 4 = some (0, 0, 3)) := by
  rw [crossroadsref03_Parse.l0, if_neg (by decide)]
  obtain ⟨k, rfl⟩ : ∃ m, k = m + 1 := ⟨k - 1, by omega⟩
  rcases rnum_cases l 32 (by omega) (k + 1) (by omega) with ⟨v, r, hl, hv, hr, hf⟩ | ⟨hno, hf⟩
  · have hp := dd_pos v
    rw [hf, Option.bind_some, if_neg (by omega)]
    simp only [crossroadsref03_Parse.j1]
    rw [mk_size]
    cases r with
    | nil =>
      rw [List.append_nil] at hl
      refine .inl ⟨v, hl, by omega, ?_⟩
      have e : (((dd v).length : Int) != (l.length : Int)) = false := by rw [hl]; simp
      rw [e, if_neg (by decide), rMay_f k (by omega) acc v hacc, Option.bind_some]
    | cons b q =>
      refine .inr ⟨fun n hn e => ?_, ?_⟩
      · rw [hl] at e
        have := (dd_split hr ends_nil (e.trans (List.append_nil _).symm)).2
        cases this
      · have e : (((dd v).length : Int) != (l.length : Int)) = true := by rw [hl, bne_iff_ne]; simp; omega
        rw [e, if_pos rfl]
  · refine .inr ⟨fun n hn e => hno n [] (by rw [e, List.append_nil]) (by omega) ends_nil, ?_⟩
    rw [hf, Option.bind_some, if_pos rfl]
    simp only [crossroadsref03_Parse.j1]
    rw [if_pos trivial]

theorem acc_next (x v : Nat) (hx : x < 16777216) (hv : v ≤ 255) : (((((x : Int) * 256) % 4294967296) + ((v : Int) % 4294967296)) % 4294967296) = ((x * 256 + v : Nat) : Int) := by omega

theorem rParse_f (l : List UInt8) (k : Nat) (hk : 80 ≤ k) :
    (∃ a b c d n, IsTxt l a b c d n ∧ crossroadsref03_Parse.f k (mk l) = fin a b c d n) ∨ ((∀ a b c d n, ¬ IsTxt l a b c d n) ∧ crossroadsref03_Parse.f k (mk l) = some (0, 0, 3)) := by
  obtain ⟨k, rfl⟩ : ∃ m, k = m + 5 := ⟨k - 5, by omega⟩
  have w0 : wrap64 ((0 : Int) + 1) = 1 := by unfold wrap64; omega
  have w1 : wrap64 ((1 : Int) + 1) = 2 := by unfold wrap64; omega
  have w2 : wrap64 ((2 : Int) + 1) = 3 := by unfold wrap64; omega
  have w3 : wrap64 ((3 : Int) + 1) = 4 := by unfold wrap64; omega
  unfold crossroadsref03_Parse.f
  rcases rstep_dot l 0 0 (by decide) (by decide) (k + 4) (by omega) with ⟨a, r1, e1, ha, h⟩ | ⟨hno, h⟩
  · have c1 := acc_next 0 a (by omega) ha
    simp only [Nat.zero_mul, Nat.zero_add] at c1
    rw [show ((0 : Nat) : Int) = 0 from rfl] at c1
    rw [w0, c1] at h
    rw [show k + 5 = k + 4 + 1 from rfl, h]
    rcases rstep_dot r1 (a : Int) 1 (by decide) (by decide) (k + 3) (by omega) with ⟨b, r2, e2, hb, h⟩ | ⟨hno, h⟩
    · rw [w1, acc_next a b (by omega) hb] at h
      rw [show k + 4 = k + 3 + 1 from rfl, h]
      rcases rstep_dot r2 ((a * 256 + b : Nat) : Int) 2 (by decide) (by decide) (k + 2) (by omega) with ⟨c, r3, e3, hc, h⟩ | ⟨hno, h⟩
      · rw [w2, acc_next (a * 256 + b) c (by omega) hc] at h
        rw [show k + 3 = k + 2 + 1 from rfl, h]
        rcases rstep_slash r3 (((a * 256 + b) * 256 + c : Nat) : Int) (k + 1) (by omega) with ⟨d, r4, e4, hd, h⟩ | ⟨hno, h⟩
        · rw [w3, acc_next ((a * 256 + b) * 256 + c) d (by omega) hd] at h
          rw [show k + 2 = k + 1 + 1 from rfl, h]
          have hU := adr_U32 ha hb hc hd
          rcases rfinal r4 (adr a b c d : Int) hU k (by omega) with ⟨n, e5, hn, h⟩ | ⟨hno, h⟩
          · refine .inl ⟨a, b, c, d, n, ⟨by rw [e1, e2, e3, e4, e5], ha, hb, hc, hd, hn⟩, ?_⟩
            exact h
          · refine .inr ⟨fun a' b' c' d' n' ht => ?_, h⟩
            have e := ht.eq
            rw [e1, e2, e3, e4] at e
            obtain ⟨_, q2⟩ := dd_split (ends_dot _) (ends_dot _) e
            obtain ⟨_, q4⟩ := dd_split (ends_dot _) (ends_dot _) (List.cons.inj q2).2
            obtain ⟨_, q6⟩ := dd_split (ends_dot _) (ends_dot _) (List.cons.inj q4).2
            obtain ⟨_, q8⟩ := dd_split (ends_slash _) (ends_slash _) (List.cons.inj q6).2
            exact hno n' ht.n (List.cons.inj q8).2
        · refine .inr ⟨fun a' b' c' d' n' ht => ?_, h⟩
          have e := ht.eq
          rw [e1, e2, e3] at e
          obtain ⟨_, q2⟩ := dd_split (ends_dot _) (ends_dot _) e
          obtain ⟨_, q4⟩ := dd_split (ends_dot _) (ends_dot _) (List.cons.inj q2).2
          obtain ⟨_, q6⟩ := dd_split (ends_dot _) (ends_dot _) (List.cons.inj q4).2
          exact hno d' _ ht.d (List.cons.inj q6).2
      · refine .inr ⟨fun a' b' c' d' n' ht => ?_, h⟩
        have e := ht.eq
        rw [e1, e2] at e
        obtain ⟨_, q2⟩ := dd_split (ends_dot _) (ends_dot _) e
        obtain ⟨_, q4⟩ := dd_split (ends_dot _) (ends_dot _) (List.cons.inj q2).2
        exact hno c' _ ht.c (List.cons.inj q4).2
    · refine .inr ⟨fun a' b' c' d' n' ht => ?_, h⟩
      have e := ht.eq
      rw [e1] at e
      obtain ⟨_, q2⟩ := dd_split (ends_dot _) (ends_dot _) e
      exact hno b' _ ht.b (List.cons.inj q2).2
  · exact .inr ⟨fun a b c d n ht => hno a _ ht.a ht.eq, h⟩

/-! ### The program's parse -/
theorem dd_no (n : Nat) (b : UInt8) (h : isD b = false) : b ∉ dd n := fun hb => by
  rw [dd_digits n b hb] at h
  cases h
theorem or_next (x v : Nat) (hx : x < 16777216) (hv : v ≤ 255) : Go.bits .or .u32 (((x : Int) * 256) % 4294967296) (((v : Int)) % 4294967296) = ((x * 256 + v : Nat) : Int) := by
  have e1 : ((x : Int) * 256) % 4294967296 = ((x * 256 : Nat) : Int) := by omega
  have e2 : ((v : Int)) % 4294967296 = (v : Int) := by omega
  rw [e1, e2]
  have e32 : (2 : Nat) ^ 32 = 4294967296 := by decide
  have e8 : (2 : Nat) ^ 8 = 256 := by decide
  exact bits_or_low (x * 256) v 8 (by decide) (by omega) (by rw [e8]; exact Nat.mul_mod_left _ _) (by omega)

/-- One of the four numbers. -/
theorem pstep (ps : List (List UInt8)) (i : Nat) (p : List UInt8) (hp : ps[i]? = some p) (hlen : ps.length ≤ 100) (x : Nat) (hx : x < 16777216) (n : Int) (k : Nat) :
    (∃ v : Nat, p = dd v ∧ v ≤ 255 ∧ addr_Parse.l0 (k + 1) (ps.map mk) (ps.length : Int) (i : Int) (x : Int) n = addr_Parse.l0 k (ps.map mk) (ps.length : Int) ((i + 1 : Nat) : Int) ((x * 256 + v : Nat) : Int) n) ∨
    ((∀ v : Nat, v ≤ 255 → p ≠ dd v) ∧ addr_Parse.l0 (k + 1) (ps.map mk) (ps.length : Int) (i : Int) (x : Int) n = some (0, 0, 3)) := by
  have hi : i < ps.length := (List.getElem?_eq_some_iff.1 hp).1
  have hrd : rdOf ByteArray.empty (ps.map mk) (i : Int) = mk p := by
    unfold rdOf
    rw [Int.toNat_natCast, List.getD_eq_getElem?_getD, List.getElem?_map, hp]
    rfl
  rw [addr_Parse.l0, if_pos (by omega), if_pos (by omega), if_pos (by simp; omega), hrd]
  rcases num_cases p 255 with ⟨v, hv, rfl, hf⟩ | ⟨hno, hf⟩
  · rw [hf, Option.bind_some]
    by_cases h : v ≤ 255
    · refine .inl ⟨v, rfl, h, ?_⟩
      have e : decide ((v : Int) ≤ 255) = true := decide_eq_true (by omega)
      have hw : wrap64 ((i : Int) + 1) = ((i + 1 : Nat) : Int) := by rw [wrap64_id _ (by omega) (by omega)]; omega
      rw [e, if_pos rfl, hw, or_next x v hx h]
    · refine .inr ⟨fun v' hv' e => h (by rw [dd_inj e]; exact hv'), ?_⟩
      have e : decide ((v : Int) ≤ 255) = false := decide_eq_false (by omega)
      rw [e]
      rfl
  · rw [hf, Option.bind_some]
    exact .inr ⟨fun v hv e => hno v (by omega) e, rfl⟩

theorem Parse_f (l : List UInt8) (hl : l.length < 4294967281) (k : Nat) (hk : 10 ≤ k) :
    (∃ a b c d n, IsTxt l a b c d n ∧ addr_Parse.f k (mk l) = fin a b c d n) ∨ ((∀ a b c d n, ¬ IsTxt l a b c d n) ∧ addr_Parse.f k (mk l) = some (0, 0, 3)) := by
  obtain ⟨k, rfl⟩ : ∃ m, k = m + 6 := ⟨k - 6, by omega⟩
  have hcutf : strings_Cut.f (mk l) (⟨#[47]⟩ : ByteArray) = some (mk (Lib.cut l [47]).1, mk (Lib.cut l [47]).2.1, (Lib.cut l [47]).2.2) := by
    unfold strings_Cut.f
    rw [mk_size, if_pos hl, mk_data]
    rfl
  have hspl : ∀ h : List UInt8, h.length < 4294967281 → strings_Split.f (mk h) (⟨#[46]⟩ : ByteArray) = some ((spl 46 h).map mk) := by
    intro h hh
    unfold strings_Split.f
    rw [mk_size, if_pos ⟨hh, by decide⟩]
    exact congrArg some (splitB_spl 46 h)
  unfold addr_Parse.f
  rw [hcutf, Option.bind_some]
  rcases mem_cut 47 l with h47 | ⟨h, t, hh, rfl⟩
  · rw [cut_none 47 h47]
    simp only
    rw [hspl l hl, Option.bind_some]
    refine .inr ⟨fun a b c d n ht => h47 (by rw [ht.eq]; simp), ?_⟩
    rcases num_cases [] 32 with ⟨v, hv, he, hf⟩ | ⟨hno, hf⟩
    · rw [hf, Option.bind_some]
      simp [addr_Parse.j0]
    · rw [hf, Option.bind_some]
      simp [addr_Parse.j0]
  · rw [cut_app 47 hh t]
    simp only
    rw [hspl h (by simp at hl; omega), Option.bind_some]
    have hcut : ∀ a b c d n, IsTxt (h ++ 47 :: t) a b c d n → h = dd a ++ 46 :: (dd b ++ 46 :: (dd c ++ 46 :: dd d)) ∧ t = dd n := by
      intro a b c d n ht
      have e := ht.eq
      have e2 : h ++ 47 :: t = (dd a ++ 46 :: (dd b ++ 46 :: (dd c ++ 46 :: dd d))) ++ 47 :: dd n := by rw [e]; simp
      have hn : (47 : UInt8) ∉ (dd a ++ 46 :: (dd b ++ 46 :: (dd c ++ 46 :: dd d))) := by
        simp only [List.mem_append, List.mem_cons, not_or]
        exact ⟨dd_no a 47 (by decide), by decide, dd_no b 47 (by decide), by decide, dd_no c 47 (by decide), by decide, dd_no d 47 (by decide)⟩
      have h1 := cut_app 47 hh t
      rw [e2, cut_app 47 hn] at h1
      simp only [Prod.mk.injEq, and_true] at h1
      exact ⟨h1.1.symm, h1.2.symm⟩
    rcases num_cases t 32 with ⟨n, hn, rfl, hf⟩ | ⟨hno, hf⟩
    · rw [hf, Option.bind_some, if_pos trivial]
      simp only
      by_cases h32 : n ≤ 32
      · have e : decide ((n : Int) ≤ 32) = true := decide_eq_true (by omega)
        rw [e, if_pos rfl, addr_Parse.j0]
        by_cases h4 : (spl 46 h).length = 4
        · have e4 : ((((spl 46 h).map mk).length : Int) != 4) = false := by simp [h4]
          rw [e4, if_neg (by decide)]
          obtain ⟨p0, p1, p2, p3, hps⟩ : ∃ p0 p1 p2 p3, spl 46 h = [p0, p1, p2, p3] := by
            generalize spl 46 h = L at h4
            match L, h4 with
            | [p0, p1, p2, p3], _ => exact ⟨p0, p1, p2, p3, rfl⟩
          have hj := join_spl 46 h
          rw [hps] at hj ⊢
          simp only [join1] at hj
          have hlen4 : (([p0, p1, p2, p3].map mk).length : Int) = (([p0, p1, p2, p3] : List (List UInt8)).length : Int) := by simp
          rw [hlen4]
          have hbad : ∀ a b c d m, IsTxt (h ++ 47 :: dd n) a b c d m → p0 = dd a ∧ p1 = dd b ∧ p2 = dd c ∧ p3 = dd d := by
            intro a b c d m ht
            have h1 := (hcut a b c d m ht).1
            have h2 : spl 46 h = [dd a, dd b, dd c, dd d] := by
              rw [h1, spl_app 46 (dd_no a 46 (by decide)), spl_app 46 (dd_no b 46 (by decide)), spl_app 46 (dd_no c 46 (by decide)), spl_none 46 (dd_no d 46 (by decide))]
            rw [hps] at h2
            simp only [List.cons.injEq, and_true] at h2
            exact h2
          rcases pstep [p0, p1, p2, p3] 0 p0 rfl (by simp) 0 (by omega) (n : Int) (k + 4) with ⟨a, ea, ha, hs⟩ | ⟨hno, hs⟩
          · rw [show ((0 : Nat) : Int) = 0 from rfl] at hs
            rw [hs]
            rcases pstep [p0, p1, p2, p3] 1 p1 rfl (by simp) (0 * 256 + a) (by omega) (n : Int) (k + 3) with ⟨b, eb, hb, hs⟩ | ⟨hno, hs⟩
            · rw [hs]
              rcases pstep [p0, p1, p2, p3] 2 p2 rfl (by simp) ((0 * 256 + a) * 256 + b) (by omega) (n : Int) (k + 2) with ⟨c, ec, hc, hs⟩ | ⟨hno, hs⟩
              · rw [hs]
                rcases pstep [p0, p1, p2, p3] 3 p3 rfl (by simp) (((0 * 256 + a) * 256 + b) * 256 + c) (by omega) (n : Int) (k + 1) with ⟨d, ed, hd, hs⟩ | ⟨hno, hs⟩
                · rw [hs, addr_Parse.l0, if_neg (by simp)]
                  have eadr : ((((0 * 256 + a) * 256 + b) * 256 + c) * 256 + d : Nat) = adr a b c d := by unfold adr; omega
                  rw [eadr, May_f _ _ (adr_U32 ha hb hc hd), Option.bind_some]
                  refine .inl ⟨a, b, c, d, n, ⟨?_, ha, hb, hc, hd, h32⟩, rfl⟩
                  rw [← hj, ea, eb, ec, ed]
                  simp
                · rw [hs]
                  exact .inr ⟨fun a' b' c' d' n' ht => hno d' ht.d (hbad _ _ _ _ _ ht).2.2.2, rfl⟩
              · rw [hs]
                exact .inr ⟨fun a' b' c' d' n' ht => hno c' ht.c (hbad _ _ _ _ _ ht).2.2.1, rfl⟩
            · rw [hs]
              exact .inr ⟨fun a' b' c' d' n' ht => hno b' ht.b (hbad _ _ _ _ _ ht).2.1, rfl⟩
          · rw [show ((0 : Nat) : Int) = 0 from rfl] at hs
            rw [hs]
            exact .inr ⟨fun a' b' c' d' n' ht => hno a' ht.a (hbad _ _ _ _ _ ht).1, rfl⟩
        · have e4 : ((((spl 46 h).map mk).length : Int) != 4) = true := by rw [bne_iff_ne]; simp; omega
          rw [e4, if_pos rfl]
          refine .inr ⟨fun a b c d m ht => h4 ?_, rfl⟩
          have h1 := (hcut a b c d m ht).1
          rw [h1, spl_app 46 (dd_no a 46 (by decide)), spl_app 46 (dd_no b 46 (by decide)), spl_app 46 (dd_no c 46 (by decide)), spl_none 46 (dd_no d 46 (by decide))]
          rfl
      · have e : decide ((n : Int) ≤ 32) = false := decide_eq_false (by omega)
        rw [e, if_neg (by decide), addr_Parse.j0, if_pos rfl]
        refine .inr ⟨fun a b c d m ht => h32 ?_, rfl⟩
        rw [dd_inj (hcut a b c d m ht).2]
        exact ht.n
    · rw [hf, Option.bind_some, if_pos trivial]
      simp only [Bool.false_eq_true, if_false]
      rw [addr_Parse.j0, if_pos rfl]
      exact .inr ⟨fun a b c d m ht => hno m (by have := ht.n; omega) (hcut a b c d m ht).2, rfl⟩

/-- A text that is a prefix is what that prefix is written as. -/
theorem txt_of {l : List UInt8} {a b c d n : Nat} (h : IsTxt l a b c d n) : txtOf (adr a b c d : Int) (n : Int) = l := by
  have := h.a
  have := h.b
  have := h.c
  have := h.d
  unfold txtOf txt oc adr
  rw [Int.toNat_natCast, itoa_nat, h.eq]
  have p24 : (2 : Nat) ^ 24 = 16777216 := by decide
  have p16 : (2 : Nat) ^ 16 = 65536 := by decide
  have p8 : (2 : Nat) ^ 8 = 256 := by decide
  have p0 : (2 : Nat) ^ 0 = 1 := by decide
  have e1 : (((a * 256 + b) * 256 + c) * 256 + d) / 2 ^ 24 % 256 = a := by rw [p24]; omega
  have e2 : (((a * 256 + b) * 256 + c) * 256 + d) / 2 ^ 16 % 256 = b := by rw [p16]; omega
  have e3 : (((a * 256 + b) * 256 + c) * 256 + d) / 2 ^ 8 % 256 = c := by rw [p8]; omega
  have e4 : (((a * 256 + b) * 256 + c) * 256 + d) / 2 ^ 0 % 256 = d := by rw [p0]; omega
  rw [e1, e2, e3, e4]
theorem txt_is (A N : Int) (hA : U32 A) (h0 : 0 ≤ N) (h1 : N ≤ 32) : IsTxt (txtOf A N) (oc A.toNat 24) (oc A.toNat 16) (oc A.toNat 8) (oc A.toNat 0) N.toNat ∧ (adr (oc A.toNat 24) (oc A.toNat 16) (oc A.toNat 8) (oc A.toNat 0) : Int) = A := by
  obtain ⟨a, rfl, ha⟩ := hA.nat
  obtain ⟨n, rfl⟩ := Int.eq_ofNat_of_zero_le h0
  have b1 := oc_lt a 24
  have b2 := oc_lt a 16
  have b3 := oc_lt a 8
  have b4 := oc_lt a 0
  refine ⟨⟨?_, ?_, ?_, ?_, ?_, ?_⟩, ?_⟩
  · unfold txtOf txt
    rw [Int.toNat_natCast, Int.toNat_natCast, itoa_nat]
  all_goals try (simp only [Int.toNat_natCast]; omega)
  have p24 : (2 : Nat) ^ 24 = 16777216 := by decide
  have p16 : (2 : Nat) ^ 16 = 65536 := by decide
  have p8 : (2 : Nat) ^ 8 = 256 := by decide
  have p0 : (2 : Nat) ^ 0 = 1 := by decide
  have p32 : (2 : Nat) ^ 32 = 4294967296 := by decide
  rw [p32] at ha
  simp only [Int.toNat_natCast]
  unfold adr oc
  rw [p24, p16, p8, p0]
  omega
end Go.Proofs.YtebioeboegmhlaaDoor.X
