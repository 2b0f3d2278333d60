/- D3p -/
import Derived.Test.YtijochhhibgcaaaDoorD3q
set_option linter.unusedSimpArgs false
set_option linter.unusedVariables false
namespace SD
open Go Go.AW Go.Proofs

def smallS (su : List Int) (p q : List ValT) (fl : List FieldT) : Bool := decide (su.length + p.length + q.length + fl.length ≤ 549755813888)
theorem small_of {su : List Int} {p q : List ValT} {fl : List FieldT} (h : smallS su p q fl = true) : su.length + p.length + q.length + fl.length ≤ 549755813888 := of_decide_eq_true h

theorem zero_cast : (0 : Int) = ((0 : Nat) : Int) := rfl

/-- The parts of a type with all its elements made anew: the same. -/
def sp26 : FSpec := fun args h K => match args, h with
  | [.agg [.bool f, .slice (.int .i64) su, .int .i64 k, .slice .val p, .slice .val q, .slice .field fl], .func 27 [] []], [] =>
    bif smallS su p q fl then K (.ret (.agg [.bool f, .slice (.int .i64) su, .int .i64 k, .slice .val p, .slice .val q, .slice .field fl]) none) [] else none
  | [.agg [.bool f, .slice (.int .i64) su, .int .i64 k, .slice .val p, .slice .val q, .slice .field fl], .func 30 [] [.ptr 0 0]], [[⟨.slice (.int .i64) l, some 3⟩]] =>
    bif smallS su p q fl && decide (l.length ≤ 549755813888) then K (.ret (.agg [.bool f, .slice (.int .i64) su, .int .i64 k, .slice .val p, .slice .val q, .slice .field fl]) none) [[⟨.slice (.int .i64) (l ++ usedOf (allOf ⟨f, su, ⟨k, p, q, fl⟩⟩)), some 3⟩]] else none
  | [.agg [.bool f, .slice (.int .i64) su, .int .i64 k, .slice .val p, .slice .val q, .slice .field fl], .func 32 [] [.ptr 0 0, .ptr 1 0]], [[⟨.bool ok, none⟩], [⟨.int .i64 e, none⟩]] =>
    bif smallS su p q fl then K (.ret (.agg [.bool f, .slice (.int .i64) su, .int .i64 k, .slice .val p, .slice .val q, .slice .field fl]) none) [[⟨.bool ((allOf ⟨f, su, ⟨k, p, q, fl⟩⟩).foldl (fun o x => okOf o e x) ok), none⟩], [⟨.int .i64 e, none⟩]] else none
  | _, _ => none

theorem sp26_ok : SpOk Tryd.prog 26 sp26 := by
  intro args h K r hk
  unfold sp26 at hk
  split at hk
  · rename_i f su k p q fl
    obtain ⟨h1, hk⟩ := bif_some hk
    have h1 := small_of h1
    refine ⟨_, _, hk, by kernel_rfl, ac26a 549755813889 ⟨f, su, ⟨k, p, q, fl⟩⟩ ?_⟩
    simp only [G26a, zero_cast]
    rw [G26a_122_loop _ _ su (by omega) _ _ _ _ _ _ _ _ _ _ _ _ _ _ _ _ _ su 0 _ [] rfl (by omega) (by simp; omega),
      G26a_250_loop _ _ p (by omega) _ _ _ _ _ _ _ _ _ _ _ _ _ _ _ _ _ p 0 _ [] rfl (by omega) (by simp; omega),
      G26a_506_loop _ _ q (by omega) _ _ _ _ _ _ _ _ _ _ _ _ _ _ _ _ _ q 0 _ [] rfl (by omega) (by simp; omega),
      G26a_1018_loop _ _ fl (by omega) _ _ _ _ _ _ _ _ _ _ _ _ _ _ _ _ _ fl 0 _ [] rfl (by omega) (by simp; omega)]
    rfl
  · rename_i f su k p q fl l
    obtain ⟨h1, hk⟩ := bif_some hk
    simp only [Bool.and_eq_true, decide_eq_true_eq] at h1
    obtain ⟨h1, h2⟩ := h1
    have h1 := small_of h1
    refine ⟨_, _, hk, by kernel_rfl, ac26b 549755813889 ⟨f, su, ⟨k, p, q, fl⟩⟩ l ?_⟩
    have u1 := usedOf_len su
    have u2 := usedOf_len (heapsOf p)
    have u3 := usedOf_len (heapsOf q)
    have e2 := heapsOf_len p
    have e3 := heapsOf_len q
    simp only [G26b, zero_cast]
    rw [G26b_122_loop _ _ su (by omega) _ _ _ _ _ _ _ _ _ _ _ _ _ _ _ _ _ su 0 _ l [] rfl (by omega) (by simp; omega) (by omega),
      G26b_250_loop _ _ p (by omega) _ _ _ _ _ _ _ _ _ _ _ _ _ _ _ _ _ p 0 _ _ [] rfl (by omega) (by simp; omega) (by simp; omega),
      G26b_506_loop _ _ q (by omega) _ _ _ _ _ _ _ _ _ _ _ _ _ _ _ _ _ q 0 _ _ [] rfl (by omega) (by simp; omega) (by simp; omega),
      G26b_1018_loop _ _ fl (by omega) _ _ _ _ _ _ _ _ _ _ _ _ _ _ _ _ _ fl 0 _ _ [] rfl (by omega) (by simp; omega) (by simp; omega)]
    simp only [allOf, usedOf_app, List.append_assoc, List.nil_append]
  · rename_i f su k p q fl ok e
    obtain ⟨h1, hk⟩ := bif_some hk
    have h1 := small_of h1
    refine ⟨_, _, hk, by kernel_rfl, ac26c 549755813889 ⟨f, su, ⟨k, p, q, fl⟩⟩ ok e ?_⟩
    simp only [G26c, zero_cast]
    rw [G26c_122_loop _ _ su (by omega) _ _ _ _ _ _ _ _ _ _ _ _ _ _ _ _ _ _ su 0 _ ok [] rfl (by omega) (by simp; omega),
      G26c_250_loop _ _ p (by omega) _ _ _ _ _ _ _ _ _ _ _ _ _ _ _ _ _ _ p 0 _ _ [] rfl (by omega) (by simp; omega),
      G26c_506_loop _ _ q (by omega) _ _ _ _ _ _ _ _ _ _ _ _ _ _ _ _ _ _ q 0 _ _ [] rfl (by omega) (by simp; omega),
      G26c_1018_loop _ _ fl (by omega) _ _ _ _ _ _ _ _ _ _ _ _ _ _ _ _ _ _ fl 0 _ _ [] rfl (by omega) (by simp; omega)]
    simp only [allOf, List.foldl_append, List.append_assoc, List.nil_append]
  · cases hk

def sp16 : FSpec := fun args h K => match args, h with
  | [], [] => K (.ret (.bool true) none) []
  | _, _ => none
theorem sp16_ok : SpOk Tryd.prog 16 sp16 := by
  intro args h K r hk
  unfold sp16 at hk
  split at hk
  · exact ⟨_, _, hk, by kernel_rfl, ac16 0 () (by unfold G16; rfl)⟩
  · cases hk

def sameI : List Int → List Int → Bool
  | [], [] => true
  | x :: a, y :: b => x == y && sameI a b
  | _, _ => false
theorem sameI_refl : ∀ a, sameI a a = true
  | [] => rfl
  | x :: a => by simp [sameI, sameI_refl a]
def sameSub (a b : SubT) : Bool := a.final == b.final && (decide (a.supers.length = b.supers.length) && (a.comp.kind == b.comp.kind && (sameI a.supers b.supers && (sameVs a.comp.params b.comp.params && (sameVs a.comp.results b.comp.results && sameFs a.comp.fields b.comp.fields)))))

theorem G11_loop (N : Nat) (k0 : Bool → Bool → List Int → Int → List ValT → List ValT → List FieldT → Bool → List Int → Int → List ValT → List ValT → List FieldT → Res) (k1 : Bool → List Int → Int → List ValT → List ValT → List FieldT → Bool → List Int → Int → List ValT → List ValT → List FieldT → Res)
    (f : Bool) (a : List Int) (hl : a.length ≤ 1099511627776) (k : Int) (p q : List ValT) (l : List FieldT) (f' : Bool) (b : List Int) (k' : Int) (p' q' : List ValT) (l' : List FieldT) : ∀ (r s : List Int) (i n : Nat), a.drop i = r → b.drop i = s → r.length = s.length → r.length < n →
    G11_58 N k0 k1 n i f a k p q l f' b k' p' q' l' = bif sameI r s then k1 f a k p q l f' b k' p' q' l' else k0 false f a k p q l f' b k' p' q' l' := by
  intro r
  induction r with
  | nil =>
    intro s i n hr hs he hn
    obtain ⟨n, rfl⟩ : ∃ m, n = m + 1 := ⟨n - 1, by omega⟩
    have : s = [] := List.eq_nil_of_length_eq_zero he.symm
    subst this
    simp only [G11_58, G11_58_st, dec_nlt (get_nil hr), cond, sameI]
  | cons x r ih =>
    intro s i n hr hs he hn
    cases s with
    | nil => cases he
    | cons y s =>
      obtain ⟨n, rfl⟩ : ∃ m, n = m + 1 := ⟨n - 1, by omega⟩
      obtain ⟨h1, h2, h3⟩ := get_cons hr
      obtain ⟨g1, g2, g3⟩ := get_cons hs
      simp only [List.length_cons] at he hn
      simp only [G11_58, G11_58_st, dec_lt h1, dec_nat, cond, toNat_cast, h2, g2, omatch_some]
      rw [i64_succ (by omega), ih s (i + 1) n h3 g3 (by omega) (by omega)]
      simp only [sameI, bne]
      cases (x == y) <;> rfl

def sp11 : FSpec := fun args h K => match args, h with
  | [.agg [.bool f, .slice (.int .i64) a, .int .i64 k, .slice .val p, .slice .val q, .slice .field l], .agg [.bool f', .slice (.int .i64) b, .int .i64 k', .slice .val p', .slice .val q', .slice .field l']], [] =>
    bif smallS a p q l then K (.ret (.bool (sameSub ⟨f, a, ⟨k, p, q, l⟩⟩ ⟨f', b, ⟨k', p', q', l'⟩⟩)) none) [] else none
  | _, _ => none
theorem sp11_ok : SpOk Tryd.prog 11 sp11 := by
  intro args h K r hk
  unfold sp11 at hk
  split at hk
  · rename_i f a k p q l f' b k' p' q' l'
    obtain ⟨h1, hk⟩ := bif_some hk
    have h1 := small_of h1
    refine ⟨_, _, hk, by kernel_rfl, ac11 549755813889 ⟨f, a, ⟨k, p, q, l⟩⟩ ⟨f', b, ⟨k', p', q', l'⟩⟩ ?_⟩
    simp only [G11, zero_cast, sameSub]
    by_cases he : a.length = b.length
    · have h0 : ((a.length : Int) != (b.length : Int)) = false := by simp [he]
      rw [h0, decide_eq_true he]
      rw [G11_loop _ _ _ _ a (by omega) _ _ _ _ _ b _ _ _ _ a b 0 _ rfl rfl he (by omega)]
      rw [decide_eq_true (show p.length ≤ 1099511627776 by omega), decide_eq_true (show q.length ≤ 1099511627776 by omega), decide_eq_true (show l.length ≤ 1099511627776 by omega)]
      simp only [bne]
      cases (f == f') <;> cases (k == k') <;> cases sameI a b <;> cases sameVs p p' <;> cases sameVs q q' <;> rfl
    · have h0 : ((a.length : Int) != (b.length : Int)) = true := by simp; omega
      rw [h0, decide_eq_false he]
      simp only [bne]
      cases (f == f') <;> rfl
  · cases hk

/-- Every number of a super is one of a type that may be spoken of; every other number too, or of no type. -/
def fineS (e : Int) (l : List Int) : Bool := l.all fun x => decide (0 ≤ x) && decide (x < e)
def fineA (e : Int) (l : List Int) : Bool := l.all fun x => decide (x < e) && decide (-12 ≤ x)

theorem G33a_loop (N : Nat) (k0 : Bool → Bool → List Int → Int → List ValT → List ValT → List FieldT → Res) (k1 : Int → Bool → List Int → Int → List ValT → List ValT → List FieldT → Res) (e : Int) (f : Bool) (su : List Int) (hl : su.length ≤ 1099511627776) (k : Int) (p q : List ValT) (l : List FieldT) :
    ∀ (r : List Int) (i n : Nat), su.drop i = r → r.length < n → G33_26 N k0 k1 n e i f su k p q l = bif fineS e r then k1 e f su k p q l else k0 false f su k p q l := by
  intro r
  induction r with
  | nil =>
    intro i n hr hn
    obtain ⟨n, rfl⟩ : ∃ m, n = m + 1 := ⟨n - 1, by omega⟩
    simp only [G33_26, G33_26_st, dec_nlt (get_nil hr), cond, fineS, List.all_nil]
  | cons x r ih =>
    intro i n hr hn
    obtain ⟨n, rfl⟩ : ∃ m, n = m + 1 := ⟨n - 1, by omega⟩
    obtain ⟨h1, h2, h3⟩ := get_cons hr
    simp only [List.length_cons] at hn
    simp only [G33_26, G33_26_st, dec_lt h1, dec_nat, cond, toNat_cast, h2, omatch_some]
    rw [i64_succ (by omega), ih (i + 1) n h3 (by omega)]
    simp only [fineS, List.all_cons]
    by_cases a1 : x < 0
    · simp [a1, show ¬ 0 ≤ x by omega]
    · by_cases a2 : e ≤ x
      · simp [a1, a2, show ¬ x < e by omega]
      · simp [a1, a2, show 0 ≤ x by omega, show x < e by omega]; rfl

theorem G33b_loop (N : Nat) (k0 : Bool → Bool → List Int → Int → List ValT → List ValT → List FieldT → Res) (k1 : Bool → List Int → Int → List ValT → List ValT → List FieldT → Res) (e : Int) (xs : List Int) (hl : xs.length ≤ 4398046511104) (f : Bool) (su : List Int) (k : Int) (p q : List ValT) (l : List FieldT) :
    ∀ (r : List Int) (i n : Nat), xs.drop i = r → r.length < n → G33_122 N k0 k1 n e xs i f su k p q l = bif fineA e r then k1 f su k p q l else k0 false f su k p q l := by
  intro r
  induction r with
  | nil =>
    intro i n hr hn
    obtain ⟨n, rfl⟩ : ∃ m, n = m + 1 := ⟨n - 1, by omega⟩
    simp only [G33_122, G33_122_st, dec_nlt (get_nil hr), cond, fineA, List.all_nil]
  | cons x r ih =>
    intro i n hr hn
    obtain ⟨n, rfl⟩ : ∃ m, n = m + 1 := ⟨n - 1, by omega⟩
    obtain ⟨h1, h2, h3⟩ := get_cons hr
    simp only [List.length_cons] at hn
    simp only [G33_122, G33_122_st, dec_lt h1, dec_nat, cond, toNat_cast, h2, omatch_some]
    rw [i64_succ (by omega), ih (i + 1) n h3 (by omega)]
    simp only [fineA, List.all_cons]
    by_cases a1 : e ≤ x
    · simp [a1, show ¬ x < e by omega]
    · by_cases a2 : x < -12
      · simp [a1, a2, show ¬ -12 ≤ x by omega]
      · simp [a1, a2, show -12 ≤ x by omega, show x < e by omega]; rfl

theorem allOf_len (s : SubT) : (allOf s).length ≤ s.supers.length + s.comp.params.length + s.comp.results.length + s.comp.fields.length := by
  have a := heapsOf_len s.comp.params
  have b := heapsOf_len s.comp.results
  have c := fheaps_len s.comp.fields
  simp [allOf]; omega

def fine (s : SubT) (e : Int) : Bool := fineS e s.supers && fineA e (allOf s)
def sp33 : FSpec := fun args h K => match args, h with
  | [.agg [.bool f, .slice (.int .i64) a, .int .i64 k, .slice .val p, .slice .val q, .slice .field l], .int .i64 e], [] =>
    bif smallS a p q l then K (.ret (.bool (fine ⟨f, a, ⟨k, p, q, l⟩⟩ e)) none) [] else none
  | _, _ => none
theorem sp33_ok : SpOk Tryd.prog 33 sp33 := by
  intro args h K r hk
  unfold sp33 at hk
  split at hk
  · rename_i f a k p q l e
    obtain ⟨h1, hk⟩ := bif_some hk
    have h1 := small_of h1
    refine ⟨_, _, hk, by kernel_rfl, ac33 549755813889 ⟨f, a, ⟨k, p, q, l⟩⟩ e ?_⟩
    have hal := allOf_len ⟨f, a, ⟨k, p, q, l⟩⟩
    simp only [G33, zero_cast, fine]
    rw [G33a_loop _ _ _ _ _ a (by omega) _ _ _ _ a 0 _ rfl (by omega)]
    rw [decide_eq_true (show a.length ≤ 1099511627776 ∧ p.length ≤ 1099511627776 ∧ q.length ≤ 1099511627776 ∧ l.length ≤ 1099511627776 by omega)]
    rw [G33b_loop _ _ _ _ _ (by simp at hal; omega) _ _ _ _ _ _ _ 0 _ rfl (by simp at hal ⊢; omega)]
    simp only [List.drop_zero]
    cases fineS e a <;> cases fineA e (allOf ⟨f, a, ⟨k, p, q, l⟩⟩) <;> rfl
  · cases hk

theorem usedOf_cons (x : Int) (l : List Int) : usedOf (x :: l) = (if decide (x ≥ 0) = true then [x] else []) ++ usedOf l := by
  simp only [usedOf, List.filter_cons]; split <;> simp
theorem G13_loop (N : Nat) (k0 : List Int → Bool → List Int → Int → List ValT → List ValT → List FieldT → Res) (xs : List Int) (hl : xs.length ≤ 1099511627776) (f : Bool) (su : List Int) (k : Int) (p q : List ValT) (l : List FieldT) :
    ∀ (r : List Int) (i n : Nat) (acc : List Int), xs.drop i = r → r.length < n → acc.length + r.length ≤ 1099511627776 → G13_122 N k0 n xs acc i f su k p q l = k0 (acc ++ usedOf r) f su k p q l := by
  intro r
  induction r with
  | nil =>
    intro i n acc hr hn hb
    obtain ⟨n, rfl⟩ : ∃ m, n = m + 1 := ⟨n - 1, by omega⟩
    simp only [G13_122, G13_122_st, dec_nlt (get_nil hr), cond, usedOf, List.filter_nil, List.append_nil]
  | cons x r ih =>
    intro i n acc hr hn hb
    obtain ⟨n, rfl⟩ : ∃ m, n = m + 1 := ⟨n - 1, by omega⟩
    obtain ⟨h1, h2, h3⟩ := get_cons hr
    simp only [List.length_cons] at hn hb
    simp only [G13_122, G13_122_st, dec_lt h1, dec_nat, cond, toNat_cast, h2, omatch_some]
    rw [i64_succ (by omega), usedOf_cons]
    cases hx : decide (x ≥ 0)
    · simp only [Bool.false_eq_true, if_false, List.nil_append]
      exact ih (i + 1) n _ h3 (by omega) (by omega)
    · rw [room (by simp; omega) (by simp; omega)]
      simp only [if_true]
      rw [ih (i + 1) n _ h3 (by omega) (by simp; omega), List.append_assoc]
def sp13 : FSpec := fun args h K => match args, h with
  | [.agg [.bool f, .slice (.int .i64) a, .int .i64 k, .slice .val p, .slice .val q, .slice .field l]], [] =>
    bif smallS a p q l then K (.ret (.slice (.int .i64) (usedOf (allOf ⟨f, a, ⟨k, p, q, l⟩⟩))) (some 3)) [] else none
  | _, _ => none
theorem sp13_ok : SpOk Tryd.prog 13 sp13 := by
  intro args h K r hk
  unfold sp13 at hk
  split at hk
  · rename_i f a k p q l
    obtain ⟨h1, hk⟩ := bif_some hk
    have h1 := small_of h1
    refine ⟨_, _, hk, by kernel_rfl, ac13 549755813889 ⟨f, a, ⟨k, p, q, l⟩⟩ ?_⟩
    have hal := allOf_len ⟨f, a, ⟨k, p, q, l⟩⟩
    simp only [G13, zero_cast]
    rw [decide_eq_true (show a.length ≤ 1099511627776 ∧ p.length ≤ 1099511627776 ∧ q.length ≤ 1099511627776 ∧ l.length ≤ 1099511627776 by omega)]
    rw [G13_loop _ _ _ (by simp at hal; omega) _ _ _ _ _ _ _ 0 _ [] rfl (by simp at hal ⊢; omega) (by simp at hal ⊢; omega)]
    simp only [List.drop_zero, List.nil_append, cond]
  · cases hk
end SD
