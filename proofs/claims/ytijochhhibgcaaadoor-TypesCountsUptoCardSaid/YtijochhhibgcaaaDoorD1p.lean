/- D1p -/
import Derived.Test.YtijochhhibgcaaaDoorD1
import Derived.Test.YtijochhhibgcaaaDoorAwData
set_option linter.unusedSimpArgs false
namespace SD
open Go Go.AW Go.Proofs

/-- So many types. -/
def cnt : List RecT → Int
  | [] => 0
  | r :: l => r.types.length + cnt l
theorem cnt_pos : ∀ l, 0 ≤ cnt l
  | [] => Int.le_refl _
  | r :: l => by have := cnt_pos l; simp only [cnt]; omega
theorem cnt_drop (l : List RecT) : ∀ i, cnt (l.drop i) ≤ cnt l := by
  induction l with
  | nil => intro i; simp [cnt]
  | cons r l ih =>
    intro i
    cases i with
    | zero => exact Int.le_refl _
    | succ i => have := ih i; simp only [List.drop_succ_cons, cnt]; omega


theorem G9_loop (N : Nat) (k0 : Int → Res) (l : List RecT) (hl : l.length ≤ 1099511627776) : ∀ (r : List RecT) (i n : Nat) (acc : Int), l.drop i = r → r.length < n → 0 ≤ acc → acc + cnt r ≤ 1099511627776 → G9_58 N k0 n acc l l.length i = k0 (acc + cnt r) := by
  intro r
  induction r with
  | nil =>
    intro i n acc hr hn h0 hb
    obtain ⟨n, rfl⟩ : ∃ m, n = m + 1 := ⟨n - 1, by omega⟩
    simp only [G9_58, G9_58_st, dec_nlt (get_nil hr), cond, cnt, Int.add_zero]
  | cons x r ih =>
    intro i n acc hr hn h0 hb
    obtain ⟨n, rfl⟩ : ∃ m, n = m + 1 := ⟨n - 1, by omega⟩
    obtain ⟨h1, h2, h3⟩ := get_cons hr
    have hc := cnt_pos r
    simp only [cnt] at hb
    simp only [G9_58, G9_58_st, dec_lt h1, dec_nat, cond, toNat_cast, h2, omatch_some]
    rw [i64_ok (by omega) (by omega), i64_succ (by omega), ih (i + 1) n _ h3 (by simp at hn; omega) (by omega) (by omega)]
    simp only [cnt, Int.add_assoc]

theorem G10_loop (N : Nat) (k0 : Int → Res) (l : List RecT) (hl : l.length ≤ 1099511627776) : ∀ (r : List RecT) (i n : Nat) (acc : Int), l.drop i = r → r.length < n → 0 ≤ acc → acc + cnt r ≤ 1099511627776 → G10_58 N k0 n l acc i = k0 (acc + cnt r) := by
  intro r
  induction r with
  | nil =>
    intro i n acc hr hn h0 hb
    obtain ⟨n, rfl⟩ : ∃ m, n = m + 1 := ⟨n - 1, by omega⟩
    simp only [G10_58, G10_58_st, dec_nlt (get_nil hr), cond, cnt, Int.add_zero]
  | cons x r ih =>
    intro i n acc hr hn h0 hb
    obtain ⟨n, rfl⟩ : ∃ m, n = m + 1 := ⟨n - 1, by omega⟩
    obtain ⟨h1, h2, h3⟩ := get_cons hr
    have hc := cnt_pos r
    simp only [cnt] at hb
    simp only [G10_58, G10_58_st, dec_lt h1, dec_nat, cond, toNat_cast, h2, omatch_some]
    rw [i64_ok (by omega) (by omega), i64_succ (by omega), ih (i + 1) n _ h3 (by simp at hn; omega) (by omega) (by omega)]
    simp only [cnt, Int.add_assoc]

def spCount : FSpec := fun args h K => match args, h with
  | [.slice .grp l], [] => bif decide (l.length ≤ 1099511627776 ∧ cnt l ≤ 1099511627776) then K (.ret (.int .i64 (cnt l)) none) [] else none
  | _, _ => none
theorem bd {p : Prop} [Decidable p] {x : Res} {r : TEnd × THeap} (h : (bif decide p then x else none) = some r) : p ∧ x = some r := by
  obtain ⟨h1, h2⟩ := bif_some h
  exact ⟨of_decide_eq_true h1, h2⟩
def sp9 := spCount
theorem sp9_ok : SpOk Tryd.prog 9 sp9 := by
  intro args h K r hk
  unfold sp9 spCount at hk
  split at hk
  · rename_i l
    obtain ⟨⟨h1, h2⟩, hk⟩ := bd hk
    refine ⟨_, _, hk, by kernel_rfl, ac9 (l.length + 1) l ?_⟩
    simp only [G9]
    rw [show (0 : Int) = ((0 : Nat) : Int) from rfl, G9_loop _ _ l h1 l 0 _ _ rfl (by omega) (by omega) (by omega)]
    simp
  · cases hk
def sp10 := spCount
theorem sp10_ok : SpOk Tryd.prog 10 sp10 := by
  intro args h K r hk
  unfold sp10 spCount at hk
  split at hk
  · rename_i l
    obtain ⟨⟨h1, h2⟩, hk⟩ := bd hk
    refine ⟨_, _, hk, by kernel_rfl, ac10 (l.length + 1) l ?_⟩
    simp only [G10]
    rw [show (0 : Int) = ((0 : Nat) : Int) from rfl, G10_loop _ _ l h1 l 0 _ _ rfl (by omega) (by omega) (by omega)]
    simp
  · cases hk

def sameV (a b : ValT) : Bool := a.num == b.num && (a.num != 5 || (a.null == b.null && a.heap == b.heap))
def sp52 : FSpec := fun args h K => match args, h with
  | [.agg [.int .i64 a1, .bool a2, .int .i64 a3], .agg [.int .i64 b1, .bool b2, .int .i64 b3]], [] => K (.ret (.bool (sameV ⟨a1, a2, a3⟩ ⟨b1, b2, b3⟩)) none) []
  | _, _ => none
theorem sp52_ok : SpOk Tryd.prog 52 sp52 := by
  intro args h K r hk
  unfold sp52 at hk
  split at hk
  · rename_i a1 a2 a3 b1 b2 b3
    refine ⟨_, _, hk, by kernel_rfl, ac52 0 ⟨a1, a2, a3⟩ ⟨b1, b2, b3⟩ ?_⟩
    simp only [G52, sameV]
    cases (a1 == b1) <;> cases (a1 != 5) <;> cases (a2 == b2) <;> cases (a3 == b3) <;> rfl
  · cases hk

def heapsOf (l : List ValT) : List Int := (l.filter fun v => v.num == 5).map (·.heap)
theorem heapsOf_cons (v : ValT) (l : List ValT) : heapsOf (v :: l) = (if v.num == 5 then [v.heap] else []) ++ heapsOf l := by
  unfold heapsOf; rw [List.filter_cons]; split <;> simp_all
theorem heapsOf_len (l : List ValT) : (heapsOf l).length ≤ l.length := by
  unfold heapsOf; rw [List.length_map]; exact List.length_filter_le _ _

theorem G53_loop (N : Nat) (k0 : List Int → Res) (l : List ValT) (hl : l.length ≤ 1099511627776) : ∀ (r : List ValT) (i n : Nat) (acc : List Int), l.drop i = r → r.length < n → acc.length + r.length ≤ 1099511627776 → G53_58 N k0 n l acc i = k0 (acc ++ heapsOf r) := by
  intro r
  induction r with
  | nil =>
    intro i n acc hr hn hb
    obtain ⟨n, rfl⟩ : ∃ m, n = m + 1 := ⟨n - 1, by omega⟩
    simp only [G53_58, G53_58_st, dec_nlt (get_nil hr), cond, heapsOf, List.filter_nil, List.map_nil, List.append_nil]
  | cons x r ih =>
    intro i n acc hr hn hb
    obtain ⟨n, rfl⟩ : ∃ m, n = m + 1 := ⟨n - 1, by omega⟩
    obtain ⟨h1, h2, h3⟩ := get_cons hr
    simp only [List.length_cons] at hb hn
    simp only [G53_58, G53_58_st, dec_lt h1, dec_nat, cond, toNat_cast, h2, omatch_some]
    rw [i64_succ (by omega), heapsOf_cons]
    cases hx : (x.num == 5)
    · simp only [Bool.false_eq_true, if_false, List.nil_append]
      exact ih (i + 1) n _ h3 (by omega) (by omega)
    · rw [room (by simp; omega) (by simp; omega)]
      simp only [if_true]
      rw [ih (i + 1) n _ h3 (by omega) (by simp; omega), List.append_assoc]
def sp53 : FSpec := fun args h K => match args, h with
  | [.slice .val l], [] => bif decide (l.length ≤ 1099511627776) then K (.ret (.slice (.int .i64) (heapsOf l)) (some 3)) [] else none
  | _, _ => none
theorem sp53_ok : SpOk Tryd.prog 53 sp53 := by
  intro args h K r hk
  unfold sp53 at hk
  split at hk
  · rename_i l
    obtain ⟨h1, hk⟩ := bd hk
    refine ⟨_, _, hk, by kernel_rfl, ac53 (l.length + 1) l ?_⟩
    simp only [G53]
    rw [show (0 : Int) = ((0 : Nat) : Int) from rfl, G53_loop _ _ l h1 l 0 _ _ rfl (by omega) (by simp; omega)]
    simp
  · cases hk
end SD
