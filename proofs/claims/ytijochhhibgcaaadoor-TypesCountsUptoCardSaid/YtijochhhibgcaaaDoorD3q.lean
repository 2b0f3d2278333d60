/- D3q -/
import Derived.Test.YtijochhhibgcaaaDoorD3
import Derived.Test.YtijochhhibgcaaaDoorD2p
set_option linter.unusedSimpArgs false
set_option linter.unusedVariables false
namespace SD
open Go Go.AW Go.Proofs
theorem usedOf_app (a b : List Int) : usedOf (a ++ b) = usedOf a ++ usedOf b := by simp [usedOf]
theorem usedOf_len (a : List Int) : (usedOf a).length ≤ a.length := List.length_filter_le _ _
theorem heapsOf_cons1 (x : ValT) (l : List ValT) : heapsOf (x :: l) = heapsOf [x] ++ heapsOf l := by rw [heapsOf_cons, heaps1]
theorem G26a_122_loop (N : Nat) (k0 : (Bool) → (List Int) → (Int) → (List ValT) → (List ValT) → (List FieldT) → (Bool) → (List Int) → (Int) → (List ValT) → (List ValT) → (List FieldT) → (Bool) → (List Int) → (Int) → (List ValT) → (List ValT) → (List FieldT) → Res) (xs : List Int) (hl : xs.length ≤ 1099511627776) (s0 : Bool) (s1 : List Int) (s2 : Int) (s3 : List ValT) (s4 : List ValT) (s5 : List FieldT) (r0 : Bool) (r1 : List Int) (r2 : Int) (r3 : List ValT) (r4 : List ValT) (r5 : List FieldT) (o0 : Bool) (o2 : Int) (o3 : List ValT) (o4 : List ValT) (o5 : List FieldT) : ∀ (r : List Int) (i n : Nat) (o1 : List Int), xs.drop i = r → r.length < n → o1.length + r.length ≤ 1099511627776 → G26a_122 N k0 n xs xs.length i s0 s1 s2 s3 s4 s5 r0 r1 r2 r3 r4 r5 o0 o1 o2 o3 o4 o5 = k0 s0 s1 s2 s3 s4 s5 r0 r1 r2 r3 r4 r5 o0 (o1 ++ r) o2 o3 o4 o5 := by
  intro r
  induction r with
  | nil =>
    intro i n o1 hr hn hb
    obtain ⟨n, rfl⟩ : ∃ m, n = m + 1 := ⟨n - 1, by omega⟩
    simp only [G26a_122, G26a_122_st, dec_nlt (get_nil hr), cond, List.append_nil, usedOf, heapsOf, fheaps, List.filter_nil, List.map_nil, List.foldl_nil]
  | cons x r ih =>
    intro i n o1 hr hn hb
    obtain ⟨n, rfl⟩ : ∃ m, n = m + 1 := ⟨n - 1, by omega⟩
    obtain ⟨h1, h2, h3⟩ := get_cons hr
    simp only [List.length_cons] at hb hn
    simp only [G26a_122, G26a_122_st, dec_lt h1, dec_nat, cond, toNat_cast, h2, omatch_some]
    rw [room (by simp; omega) (by simp; omega), i64_succ (by omega)]
    simp only [cond]
    rw [ih (i + 1) n _ h3 (by omega) (by simp; omega)]
    simp only [List.append_assoc, List.singleton_append]
theorem G26a_250_loop (N : Nat) (k0 : (Bool) → (List Int) → (Int) → (List ValT) → (List ValT) → (List FieldT) → (Bool) → (List Int) → (Int) → (List ValT) → (List ValT) → (List FieldT) → (Bool) → (List Int) → (Int) → (List ValT) → (List ValT) → (List FieldT) → Res) (xs : List ValT) (hl : xs.length ≤ 1099511627776) (s0 : Bool) (s1 : List Int) (s2 : Int) (s3 : List ValT) (s4 : List ValT) (s5 : List FieldT) (r0 : Bool) (r1 : List Int) (r2 : Int) (r3 : List ValT) (r4 : List ValT) (r5 : List FieldT) (o0 : Bool) (o1 : List Int) (o2 : Int) (o4 : List ValT) (o5 : List FieldT) : ∀ (r : List ValT) (i n : Nat) (o3 : List ValT), xs.drop i = r → r.length < n → o3.length + r.length ≤ 1099511627776 → G26a_250 N k0 n xs xs.length i s0 s1 s2 s3 s4 s5 r0 r1 r2 r3 r4 r5 o0 o1 o2 o3 o4 o5 = k0 s0 s1 s2 s3 s4 s5 r0 r1 r2 r3 r4 r5 o0 o1 o2 (o3 ++ r) o4 o5 := by
  intro r
  induction r with
  | nil =>
    intro i n o3 hr hn hb
    obtain ⟨n, rfl⟩ : ∃ m, n = m + 1 := ⟨n - 1, by omega⟩
    simp only [G26a_250, G26a_250_st, dec_nlt (get_nil hr), cond, List.append_nil, usedOf, heapsOf, fheaps, List.filter_nil, List.map_nil, List.foldl_nil]
  | cons x r ih =>
    intro i n o3 hr hn hb
    obtain ⟨n, rfl⟩ : ∃ m, n = m + 1 := ⟨n - 1, by omega⟩
    obtain ⟨h1, h2, h3⟩ := get_cons hr
    simp only [List.length_cons] at hb hn
    simp only [G26a_250, G26a_250_st, dec_lt h1, dec_nat, cond, toNat_cast, h2, omatch_some]
    rw [room (by simp; omega) (by simp; omega), i64_succ (by omega)]
    simp only [cond]
    rw [ih (i + 1) n _ h3 (by omega) (by simp; omega)]
    simp only [List.append_assoc, List.singleton_append]
theorem G26a_506_loop (N : Nat) (k0 : (Bool) → (List Int) → (Int) → (List ValT) → (List ValT) → (List FieldT) → (Bool) → (List Int) → (Int) → (List ValT) → (List ValT) → (List FieldT) → (Bool) → (List Int) → (Int) → (List ValT) → (List ValT) → (List FieldT) → Res) (xs : List ValT) (hl : xs.length ≤ 1099511627776) (s0 : Bool) (s1 : List Int) (s2 : Int) (s3 : List ValT) (s4 : List ValT) (s5 : List FieldT) (r0 : Bool) (r1 : List Int) (r2 : Int) (r3 : List ValT) (r4 : List ValT) (r5 : List FieldT) (o0 : Bool) (o1 : List Int) (o2 : Int) (o3 : List ValT) (o5 : List FieldT) : ∀ (r : List ValT) (i n : Nat) (o4 : List ValT), xs.drop i = r → r.length < n → o4.length + r.length ≤ 1099511627776 → G26a_506 N k0 n xs xs.length i s0 s1 s2 s3 s4 s5 r0 r1 r2 r3 r4 r5 o0 o1 o2 o3 o4 o5 = k0 s0 s1 s2 s3 s4 s5 r0 r1 r2 r3 r4 r5 o0 o1 o2 o3 (o4 ++ r) o5 := by
  intro r
  induction r with
  | nil =>
    intro i n o4 hr hn hb
    obtain ⟨n, rfl⟩ : ∃ m, n = m + 1 := ⟨n - 1, by omega⟩
    simp only [G26a_506, G26a_506_st, dec_nlt (get_nil hr), cond, List.append_nil, usedOf, heapsOf, fheaps, List.filter_nil, List.map_nil, List.foldl_nil]
  | cons x r ih =>
    intro i n o4 hr hn hb
    obtain ⟨n, rfl⟩ : ∃ m, n = m + 1 := ⟨n - 1, by omega⟩
    obtain ⟨h1, h2, h3⟩ := get_cons hr
    simp only [List.length_cons] at hb hn
    simp only [G26a_506, G26a_506_st, dec_lt h1, dec_nat, cond, toNat_cast, h2, omatch_some]
    rw [room (by simp; omega) (by simp; omega), i64_succ (by omega)]
    simp only [cond]
    rw [ih (i + 1) n _ h3 (by omega) (by simp; omega)]
    simp only [List.append_assoc, List.singleton_append]
theorem G26a_1018_loop (N : Nat) (k0 : (Bool) → (List Int) → (Int) → (List ValT) → (List ValT) → (List FieldT) → (Bool) → (List Int) → (Int) → (List ValT) → (List ValT) → (List FieldT) → (Bool) → (List Int) → (Int) → (List ValT) → (List ValT) → (List FieldT) → Res) (xs : List FieldT) (hl : xs.length ≤ 1099511627776) (s0 : Bool) (s1 : List Int) (s2 : Int) (s3 : List ValT) (s4 : List ValT) (s5 : List FieldT) (r0 : Bool) (r1 : List Int) (r2 : Int) (r3 : List ValT) (r4 : List ValT) (r5 : List FieldT) (o0 : Bool) (o1 : List Int) (o2 : Int) (o3 : List ValT) (o4 : List ValT) : ∀ (r : List FieldT) (i n : Nat) (o5 : List FieldT), xs.drop i = r → r.length < n → o5.length + r.length ≤ 1099511627776 → G26a_1018 N k0 n xs xs.length i s0 s1 s2 s3 s4 s5 r0 r1 r2 r3 r4 r5 o0 o1 o2 o3 o4 o5 = k0 s0 s1 s2 s3 s4 s5 r0 r1 r2 r3 r4 r5 o0 o1 o2 o3 o4 (o5 ++ r) := by
  intro r
  induction r with
  | nil =>
    intro i n o5 hr hn hb
    obtain ⟨n, rfl⟩ : ∃ m, n = m + 1 := ⟨n - 1, by omega⟩
    simp only [G26a_1018, G26a_1018_st, dec_nlt (get_nil hr), cond, List.append_nil, usedOf, heapsOf, fheaps, List.filter_nil, List.map_nil, List.foldl_nil]
  | cons x r ih =>
    intro i n o5 hr hn hb
    obtain ⟨n, rfl⟩ : ∃ m, n = m + 1 := ⟨n - 1, by omega⟩
    obtain ⟨h1, h2, h3⟩ := get_cons hr
    simp only [List.length_cons] at hb hn
    simp only [G26a_1018, G26a_1018_st, dec_lt h1, dec_nat, cond, toNat_cast, h2, omatch_some]
    rw [room (by simp; omega) (by simp; omega), i64_succ (by omega)]
    simp only [cond]
    rw [ih (i + 1) n _ h3 (by omega) (by simp; omega)]
    simp only [List.append_assoc, List.singleton_append]
theorem G26b_122_loop (N : Nat) (k0 : (List Int) → (Bool) → (List Int) → (Int) → (List ValT) → (List ValT) → (List FieldT) → (Bool) → (List Int) → (Int) → (List ValT) → (List ValT) → (List FieldT) → (Bool) → (List Int) → (Int) → (List ValT) → (List ValT) → (List FieldT) → Res) (xs : List Int) (hl : xs.length ≤ 1099511627776) (s0 : Bool) (s1 : List Int) (s2 : Int) (s3 : List ValT) (s4 : List ValT) (s5 : List FieldT) (r0 : Bool) (r1 : List Int) (r2 : Int) (r3 : List ValT) (r4 : List ValT) (r5 : List FieldT) (o0 : Bool) (o2 : Int) (o3 : List ValT) (o4 : List ValT) (o5 : List FieldT) : ∀ (r : List Int) (i n : Nat) (l : List Int) (o1 : List Int), xs.drop i = r → r.length < n → o1.length + r.length ≤ 1099511627776 → l.length + r.length ≤ 1099511627776 → G26b_122 N k0 n xs xs.length i l s0 s1 s2 s3 s4 s5 r0 r1 r2 r3 r4 r5 o0 o1 o2 o3 o4 o5 = k0 (l ++ usedOf r) s0 s1 s2 s3 s4 s5 r0 r1 r2 r3 r4 r5 o0 (o1 ++ r) o2 o3 o4 o5 := by
  intro r
  induction r with
  | nil =>
    intro i n l o1 hr hn hb hb2
    obtain ⟨n, rfl⟩ : ∃ m, n = m + 1 := ⟨n - 1, by omega⟩
    simp only [G26b_122, G26b_122_st, dec_nlt (get_nil hr), cond, List.append_nil, usedOf, heapsOf, fheaps, List.filter_nil, List.map_nil, List.foldl_nil]
  | cons x r ih =>
    intro i n l o1 hr hn hb hb2
    obtain ⟨n, rfl⟩ : ∃ m, n = m + 1 := ⟨n - 1, by omega⟩
    obtain ⟨h1, h2, h3⟩ := get_cons hr
    simp only [List.length_cons] at hb hb2 hn
    simp only [G26b_122, G26b_122_st, dec_lt h1, dec_nat, cond, toNat_cast, h2, omatch_some, decide_eq_true (show l.length ≤ 1099511627776 by omega)]
    rw [room (by simp; omega) (by simp; omega), i64_succ (by omega)]
    simp only [cond]
    rw [ih (i + 1) n _ _ h3 (by omega) (by simp; omega) (by have hu := usedOf_len [x]; simp only [List.length_append, List.length_singleton] at *; omega)]
    rw [show usedOf (x :: r) = usedOf [x] ++ usedOf r from usedOf_app [x] r]; simp only [List.append_assoc, List.singleton_append]
theorem G26b_250_loop (N : Nat) (k0 : (List Int) → (Bool) → (List Int) → (Int) → (List ValT) → (List ValT) → (List FieldT) → (Bool) → (List Int) → (Int) → (List ValT) → (List ValT) → (List FieldT) → (Bool) → (List Int) → (Int) → (List ValT) → (List ValT) → (List FieldT) → Res) (xs : List ValT) (hl : xs.length ≤ 1099511627776) (s0 : Bool) (s1 : List Int) (s2 : Int) (s3 : List ValT) (s4 : List ValT) (s5 : List FieldT) (r0 : Bool) (r1 : List Int) (r2 : Int) (r3 : List ValT) (r4 : List ValT) (r5 : List FieldT) (o0 : Bool) (o1 : List Int) (o2 : Int) (o4 : List ValT) (o5 : List FieldT) : ∀ (r : List ValT) (i n : Nat) (l : List Int) (o3 : List ValT), xs.drop i = r → r.length < n → o3.length + r.length ≤ 1099511627776 → l.length + r.length ≤ 1099511627776 → G26b_250 N k0 n xs xs.length i l s0 s1 s2 s3 s4 s5 r0 r1 r2 r3 r4 r5 o0 o1 o2 o3 o4 o5 = k0 (l ++ usedOf (heapsOf r)) s0 s1 s2 s3 s4 s5 r0 r1 r2 r3 r4 r5 o0 o1 o2 (o3 ++ r) o4 o5 := by
  intro r
  induction r with
  | nil =>
    intro i n l o3 hr hn hb hb2
    obtain ⟨n, rfl⟩ : ∃ m, n = m + 1 := ⟨n - 1, by omega⟩
    simp only [G26b_250, G26b_250_st, dec_nlt (get_nil hr), cond, List.append_nil, usedOf, heapsOf, fheaps, List.filter_nil, List.map_nil, List.foldl_nil]
  | cons x r ih =>
    intro i n l o3 hr hn hb hb2
    obtain ⟨n, rfl⟩ : ∃ m, n = m + 1 := ⟨n - 1, by omega⟩
    obtain ⟨h1, h2, h3⟩ := get_cons hr
    simp only [List.length_cons] at hb hb2 hn
    simp only [G26b_250, G26b_250_st, dec_lt h1, dec_nat, cond, toNat_cast, h2, omatch_some, decide_eq_true (show l.length ≤ 1099511627776 by omega)]
    rw [room (by simp; omega) (by simp; omega), i64_succ (by omega)]
    simp only [cond]
    rw [ih (i + 1) n _ _ h3 (by omega) (by simp; omega) (by have hx := heaps1_len x; have hu := usedOf_len (heapsOf [x]); simp only [List.length_append, List.length_singleton] at *; omega)]
    rw [heapsOf_cons1 x r, usedOf_app]; simp only [List.append_assoc, List.singleton_append]
theorem G26b_506_loop (N : Nat) (k0 : (List Int) → (Bool) → (List Int) → (Int) → (List ValT) → (List ValT) → (List FieldT) → (Bool) → (List Int) → (Int) → (List ValT) → (List ValT) → (List FieldT) → (Bool) → (List Int) → (Int) → (List ValT) → (List ValT) → (List FieldT) → Res) (xs : List ValT) (hl : xs.length ≤ 1099511627776) (s0 : Bool) (s1 : List Int) (s2 : Int) (s3 : List ValT) (s4 : List ValT) (s5 : List FieldT) (r0 : Bool) (r1 : List Int) (r2 : Int) (r3 : List ValT) (r4 : List ValT) (r5 : List FieldT) (o0 : Bool) (o1 : List Int) (o2 : Int) (o3 : List ValT) (o5 : List FieldT) : ∀ (r : List ValT) (i n : Nat) (l : List Int) (o4 : List ValT), xs.drop i = r → r.length < n → o4.length + r.length ≤ 1099511627776 → l.length + r.length ≤ 1099511627776 → G26b_506 N k0 n xs xs.length i l s0 s1 s2 s3 s4 s5 r0 r1 r2 r3 r4 r5 o0 o1 o2 o3 o4 o5 = k0 (l ++ usedOf (heapsOf r)) s0 s1 s2 s3 s4 s5 r0 r1 r2 r3 r4 r5 o0 o1 o2 o3 (o4 ++ r) o5 := by
  intro r
  induction r with
  | nil =>
    intro i n l o4 hr hn hb hb2
    obtain ⟨n, rfl⟩ : ∃ m, n = m + 1 := ⟨n - 1, by omega⟩
    simp only [G26b_506, G26b_506_st, dec_nlt (get_nil hr), cond, List.append_nil, usedOf, heapsOf, fheaps, List.filter_nil, List.map_nil, List.foldl_nil]
  | cons x r ih =>
    intro i n l o4 hr hn hb hb2
    obtain ⟨n, rfl⟩ : ∃ m, n = m + 1 := ⟨n - 1, by omega⟩
    obtain ⟨h1, h2, h3⟩ := get_cons hr
    simp only [List.length_cons] at hb hb2 hn
    simp only [G26b_506, G26b_506_st, dec_lt h1, dec_nat, cond, toNat_cast, h2, omatch_some, decide_eq_true (show l.length ≤ 1099511627776 by omega)]
    rw [room (by simp; omega) (by simp; omega), i64_succ (by omega)]
    simp only [cond]
    rw [ih (i + 1) n _ _ h3 (by omega) (by simp; omega) (by have hx := heaps1_len x; have hu := usedOf_len (heapsOf [x]); simp only [List.length_append, List.length_singleton] at *; omega)]
    rw [heapsOf_cons1 x r, usedOf_app]; simp only [List.append_assoc, List.singleton_append]
theorem G26b_1018_loop (N : Nat) (k0 : (List Int) → (Bool) → (List Int) → (Int) → (List ValT) → (List ValT) → (List FieldT) → (Bool) → (List Int) → (Int) → (List ValT) → (List ValT) → (List FieldT) → (Bool) → (List Int) → (Int) → (List ValT) → (List ValT) → (List FieldT) → Res) (xs : List FieldT) (hl : xs.length ≤ 1099511627776) (s0 : Bool) (s1 : List Int) (s2 : Int) (s3 : List ValT) (s4 : List ValT) (s5 : List FieldT) (r0 : Bool) (r1 : List Int) (r2 : Int) (r3 : List ValT) (r4 : List ValT) (r5 : List FieldT) (o0 : Bool) (o1 : List Int) (o2 : Int) (o3 : List ValT) (o4 : List ValT) : ∀ (r : List FieldT) (i n : Nat) (l : List Int) (o5 : List FieldT), xs.drop i = r → r.length < n → o5.length + r.length ≤ 1099511627776 → l.length + r.length ≤ 1099511627776 → G26b_1018 N k0 n xs xs.length i l s0 s1 s2 s3 s4 s5 r0 r1 r2 r3 r4 r5 o0 o1 o2 o3 o4 o5 = k0 (l ++ usedOf (fheaps r)) s0 s1 s2 s3 s4 s5 r0 r1 r2 r3 r4 r5 o0 o1 o2 o3 o4 (o5 ++ r) := by
  intro r
  induction r with
  | nil =>
    intro i n l o5 hr hn hb hb2
    obtain ⟨n, rfl⟩ : ∃ m, n = m + 1 := ⟨n - 1, by omega⟩
    simp only [G26b_1018, G26b_1018_st, dec_nlt (get_nil hr), cond, List.append_nil, usedOf, heapsOf, fheaps, List.filter_nil, List.map_nil, List.foldl_nil]
  | cons x r ih =>
    intro i n l o5 hr hn hb hb2
    obtain ⟨n, rfl⟩ : ∃ m, n = m + 1 := ⟨n - 1, by omega⟩
    obtain ⟨h1, h2, h3⟩ := get_cons hr
    simp only [List.length_cons] at hb hb2 hn
    simp only [G26b_1018, G26b_1018_st, dec_lt h1, dec_nat, cond, toNat_cast, h2, omatch_some, decide_eq_true (show l.length ≤ 1099511627776 by omega)]
    rw [room (by simp; omega) (by simp; omega), i64_succ (by omega)]
    simp only [cond]
    rw [ih (i + 1) n _ _ h3 (by omega) (by simp; omega) (by have hx := heaps1_len x.ty; have hu := usedOf_len (heapsOf [x.ty]); simp only [List.length_append, List.length_singleton] at *; omega)]
    rw [fheaps_cons x r, usedOf_app]; simp only [List.append_assoc, List.singleton_append]
theorem G26c_122_loop (N : Nat) (k0 : (Bool) → (Int) → (Bool) → (List Int) → (Int) → (List ValT) → (List ValT) → (List FieldT) → (Bool) → (List Int) → (Int) → (List ValT) → (List ValT) → (List FieldT) → (Bool) → (List Int) → (Int) → (List ValT) → (List ValT) → (List FieldT) → Res) (xs : List Int) (hl : xs.length ≤ 1099511627776) (e : Int) (s0 : Bool) (s1 : List Int) (s2 : Int) (s3 : List ValT) (s4 : List ValT) (s5 : List FieldT) (r0 : Bool) (r1 : List Int) (r2 : Int) (r3 : List ValT) (r4 : List ValT) (r5 : List FieldT) (o0 : Bool) (o2 : Int) (o3 : List ValT) (o4 : List ValT) (o5 : List FieldT) : ∀ (r : List Int) (i n : Nat) (ok : Bool) (o1 : List Int), xs.drop i = r → r.length < n → o1.length + r.length ≤ 1099511627776 → G26c_122 N k0 n xs xs.length i ok e s0 s1 s2 s3 s4 s5 r0 r1 r2 r3 r4 r5 o0 o1 o2 o3 o4 o5 = k0 (r.foldl (fun o x => okOf o e x) ok) e s0 s1 s2 s3 s4 s5 r0 r1 r2 r3 r4 r5 o0 (o1 ++ r) o2 o3 o4 o5 := by
  intro r
  induction r with
  | nil =>
    intro i n ok o1 hr hn hb
    obtain ⟨n, rfl⟩ : ∃ m, n = m + 1 := ⟨n - 1, by omega⟩
    simp only [G26c_122, G26c_122_st, dec_nlt (get_nil hr), cond, List.append_nil, usedOf, heapsOf, fheaps, List.filter_nil, List.map_nil, List.foldl_nil]
  | cons x r ih =>
    intro i n ok o1 hr hn hb
    obtain ⟨n, rfl⟩ : ∃ m, n = m + 1 := ⟨n - 1, by omega⟩
    obtain ⟨h1, h2, h3⟩ := get_cons hr
    simp only [List.length_cons] at hb hn
    simp only [G26c_122, G26c_122_st, dec_lt h1, dec_nat, cond, toNat_cast, h2, omatch_some]
    rw [room (by simp; omega) (by simp; omega), i64_succ (by omega)]
    simp only [cond]
    rw [ih (i + 1) n _ _ h3 (by omega) (by simp; omega)]
    simp only [List.foldl_cons, List.append_assoc, List.singleton_append]
theorem G26c_250_loop (N : Nat) (k0 : (Bool) → (Int) → (Bool) → (List Int) → (Int) → (List ValT) → (List ValT) → (List FieldT) → (Bool) → (List Int) → (Int) → (List ValT) → (List ValT) → (List FieldT) → (Bool) → (List Int) → (Int) → (List ValT) → (List ValT) → (List FieldT) → Res) (xs : List ValT) (hl : xs.length ≤ 1099511627776) (e : Int) (s0 : Bool) (s1 : List Int) (s2 : Int) (s3 : List ValT) (s4 : List ValT) (s5 : List FieldT) (r0 : Bool) (r1 : List Int) (r2 : Int) (r3 : List ValT) (r4 : List ValT) (r5 : List FieldT) (o0 : Bool) (o1 : List Int) (o2 : Int) (o4 : List ValT) (o5 : List FieldT) : ∀ (r : List ValT) (i n : Nat) (ok : Bool) (o3 : List ValT), xs.drop i = r → r.length < n → o3.length + r.length ≤ 1099511627776 → G26c_250 N k0 n xs xs.length i ok e s0 s1 s2 s3 s4 s5 r0 r1 r2 r3 r4 r5 o0 o1 o2 o3 o4 o5 = k0 ((heapsOf r).foldl (fun o x => okOf o e x) ok) e s0 s1 s2 s3 s4 s5 r0 r1 r2 r3 r4 r5 o0 o1 o2 (o3 ++ r) o4 o5 := by
  intro r
  induction r with
  | nil =>
    intro i n ok o3 hr hn hb
    obtain ⟨n, rfl⟩ : ∃ m, n = m + 1 := ⟨n - 1, by omega⟩
    simp only [G26c_250, G26c_250_st, dec_nlt (get_nil hr), cond, List.append_nil, usedOf, heapsOf, fheaps, List.filter_nil, List.map_nil, List.foldl_nil]
  | cons x r ih =>
    intro i n ok o3 hr hn hb
    obtain ⟨n, rfl⟩ : ∃ m, n = m + 1 := ⟨n - 1, by omega⟩
    obtain ⟨h1, h2, h3⟩ := get_cons hr
    simp only [List.length_cons] at hb hn
    simp only [G26c_250, G26c_250_st, dec_lt h1, dec_nat, cond, toNat_cast, h2, omatch_some]
    rw [room (by simp; omega) (by simp; omega), i64_succ (by omega)]
    simp only [cond]
    rw [ih (i + 1) n _ _ h3 (by omega) (by simp; omega)]
    rw [heapsOf_cons1 x r, List.foldl_append]; simp only [List.append_assoc, List.singleton_append]
theorem G26c_506_loop (N : Nat) (k0 : (Bool) → (Int) → (Bool) → (List Int) → (Int) → (List ValT) → (List ValT) → (List FieldT) → (Bool) → (List Int) → (Int) → (List ValT) → (List ValT) → (List FieldT) → (Bool) → (List Int) → (Int) → (List ValT) → (List ValT) → (List FieldT) → Res) (xs : List ValT) (hl : xs.length ≤ 1099511627776) (e : Int) (s0 : Bool) (s1 : List Int) (s2 : Int) (s3 : List ValT) (s4 : List ValT) (s5 : List FieldT) (r0 : Bool) (r1 : List Int) (r2 : Int) (r3 : List ValT) (r4 : List ValT) (r5 : List FieldT) (o0 : Bool) (o1 : List Int) (o2 : Int) (o3 : List ValT) (o5 : List FieldT) : ∀ (r : List ValT) (i n : Nat) (ok : Bool) (o4 : List ValT), xs.drop i = r → r.length < n → o4.length + r.length ≤ 1099511627776 → G26c_506 N k0 n xs xs.length i ok e s0 s1 s2 s3 s4 s5 r0 r1 r2 r3 r4 r5 o0 o1 o2 o3 o4 o5 = k0 ((heapsOf r).foldl (fun o x => okOf o e x) ok) e s0 s1 s2 s3 s4 s5 r0 r1 r2 r3 r4 r5 o0 o1 o2 o3 (o4 ++ r) o5 := by
  intro r
  induction r with
  | nil =>
    intro i n ok o4 hr hn hb
    obtain ⟨n, rfl⟩ : ∃ m, n = m + 1 := ⟨n - 1, by omega⟩
    simp only [G26c_506, G26c_506_st, dec_nlt (get_nil hr), cond, List.append_nil, usedOf, heapsOf, fheaps, List.filter_nil, List.map_nil, List.foldl_nil]
  | cons x r ih =>
    intro i n ok o4 hr hn hb
    obtain ⟨n, rfl⟩ : ∃ m, n = m + 1 := ⟨n - 1, by omega⟩
    obtain ⟨h1, h2, h3⟩ := get_cons hr
    simp only [List.length_cons] at hb hn
    simp only [G26c_506, G26c_506_st, dec_lt h1, dec_nat, cond, toNat_cast, h2, omatch_some]
    rw [room (by simp; omega) (by simp; omega), i64_succ (by omega)]
    simp only [cond]
    rw [ih (i + 1) n _ _ h3 (by omega) (by simp; omega)]
    rw [heapsOf_cons1 x r, List.foldl_append]; simp only [List.append_assoc, List.singleton_append]
theorem G26c_1018_loop (N : Nat) (k0 : (Bool) → (Int) → (Bool) → (List Int) → (Int) → (List ValT) → (List ValT) → (List FieldT) → (Bool) → (List Int) → (Int) → (List ValT) → (List ValT) → (List FieldT) → (Bool) → (List Int) → (Int) → (List ValT) → (List ValT) → (List FieldT) → Res) (xs : List FieldT) (hl : xs.length ≤ 1099511627776) (e : Int) (s0 : Bool) (s1 : List Int) (s2 : Int) (s3 : List ValT) (s4 : List ValT) (s5 : List FieldT) (r0 : Bool) (r1 : List Int) (r2 : Int) (r3 : List ValT) (r4 : List ValT) (r5 : List FieldT) (o0 : Bool) (o1 : List Int) (o2 : Int) (o3 : List ValT) (o4 : List ValT) : ∀ (r : List FieldT) (i n : Nat) (ok : Bool) (o5 : List FieldT), xs.drop i = r → r.length < n → o5.length + r.length ≤ 1099511627776 → G26c_1018 N k0 n xs xs.length i ok e s0 s1 s2 s3 s4 s5 r0 r1 r2 r3 r4 r5 o0 o1 o2 o3 o4 o5 = k0 ((fheaps r).foldl (fun o x => okOf o e x) ok) e s0 s1 s2 s3 s4 s5 r0 r1 r2 r3 r4 r5 o0 o1 o2 o3 o4 (o5 ++ r) := by
  intro r
  induction r with
  | nil =>
    intro i n ok o5 hr hn hb
    obtain ⟨n, rfl⟩ : ∃ m, n = m + 1 := ⟨n - 1, by omega⟩
    simp only [G26c_1018, G26c_1018_st, dec_nlt (get_nil hr), cond, List.append_nil, usedOf, heapsOf, fheaps, List.filter_nil, List.map_nil, List.foldl_nil]
  | cons x r ih =>
    intro i n ok o5 hr hn hb
    obtain ⟨n, rfl⟩ : ∃ m, n = m + 1 := ⟨n - 1, by omega⟩
    obtain ⟨h1, h2, h3⟩ := get_cons hr
    simp only [List.length_cons] at hb hn
    simp only [G26c_1018, G26c_1018_st, dec_lt h1, dec_nat, cond, toNat_cast, h2, omatch_some]
    rw [room (by simp; omega) (by simp; omega), i64_succ (by omega)]
    simp only [cond]
    rw [ih (i + 1) n _ _ h3 (by omega) (by simp; omega)]
    rw [fheaps_cons x r, List.foldl_append]; simp only [List.append_assoc, List.singleton_append]
end SD
