/- TypesCounts answers true. -/
import Derived.Test.YtijochhhibgcaaaDoorD5
set_option linter.unusedVariables false
set_option maxRecDepth 20000
namespace SD
open Go Go.AW Go.Proofs

theorem sameV_refl (v : ValT) : sameV v v = true := by simp [sameV]
theorem sameVs_refl : ∀ l, sameVs l l = true
  | [] => by simp [sameVs]
  | v :: r => by simp [sameVs, sameV_refl, sameVs_refl r]
theorem sameFs_refl : ∀ l, sameFs l l = true
  | [] => by simp [sameFs]
  | v :: r => by simp [sameFs, sameF, sameV_refl, sameFs_refl r]
theorem sameSub_refl (s : SubT) : sameSub s s = true := by simp [sameSub, sameI_refl, sameVs_refl, sameFs_refl]

theorem G3_loop (N : Nat) (k0 : Bool → Bool → List Int → Int → List ValT → List ValT → List FieldT → Bool → List Int → Int → List ValT → List ValT → List FieldT → Res) (k1 : List RecT → Bool → List Int → Int → List ValT → List ValT → List FieldT → Bool → List Int → Int → List ValT → List ValT → List FieldT → Res) (l : List RecT) (xs : List Int) (hl : xs.length ≤ 4398046511104) (f : Bool) (su : List Int) (k : Int) (p q : List ValT) (fl : List FieldT) (f' : Bool) (su' : List Int) (k' : Int) (p' q' : List ValT) (fl' : List FieldT) :
    ∀ (r : List Int) (i n : Nat), xs.drop i = r → r.length < n → G3_2042 N k0 k1 n l xs xs i f su k p q fl f' su' k' p' q' fl' = k1 l f su k p q fl f' su' k' p' q' fl' := by
  intro r
  induction r with
  | nil =>
    intro i n hr hn
    obtain ⟨n, rfl⟩ : ∃ m, n = m + 1 := ⟨n - 1, by omega⟩
    simp only [G3_2042, G3_2042_st, dec_nlt (get_nil hr), cond]
  | cons x r ih =>
    intro i n hr hn
    obtain ⟨n, rfl⟩ : ∃ m, n = m + 1 := ⟨n - 1, by omega⟩
    obtain ⟨h1, h2, h3⟩ := get_cons hr
    simp only [List.length_cons] at hn
    simp only [G3_2042, G3_2042_st, dec_lt h1, dec_nat, cond, toNat_cast, h2, omatch_some, bne_self_eq_false]
    rw [i64_succ (by omega), ih (i + 1) n h3 (by omega)]

theorem atL_small {l : List RecT} : smallG l = true → ∀ {n : Int} {i : Nat} {z : SubT × Int × Int}, atL l n i = some z → smallT z.1 = true := by
  intro h
  induction l with
  | nil => intro n i z hz; cases hz
  | cons g r ih =>
    intro n i z hz
    simp only [smallG, List.all_cons, Bool.and_eq_true] at h
    simp only [atL] at hz
    split at hz
    · split at hz
      · rename_i s hs
        cases hz
        have := h.1
        simp only [List.all_eq_true] at this
        exact this s (List.mem_of_getElem? hs)
      · cases hz
    · exact ih h.2 hz

theorem allOf_small {s : SubT} (h : smallT s = true) : (usedOf (allOf s)).length ≤ 549755813888 := by
  have h1 := allOf_len s
  have h2 := usedOf_len (allOf s)
  have h3 := small_of h
  omega

theorem G3_eq (N : Nat) (hN : 549755813888 < N) (l : List RecT) (n : Int) (hl : okL l = true) (hn : n ≤ 9223372036854775807) : G3 N l n = some (.ret (.bool true) none, []) := by
  obtain ⟨a1, a2, a3⟩ := okL_of hl
  have hc : decide (List.length l ≤ 1099511627776 ∧ cnt l ≤ 1099511627776) = true := decide_eq_true ⟨by omega, by omega⟩
  simp only [G3, hl, hn, hc, decide_true, Bool.true_and, cond, bne_self_eq_false, zero_cast]
  have tail : ∀ w : List RecT, w = l → (bif okL w then omatch (clL w 0) (bif okL w then omatch (clL w 0) (some (TEnd.ret (TV.bool true) none, ([] : THeap))) fun y65 => bif 0 == y65 then some (TEnd.ret (TV.bool false) none, []) else some (TEnd.ret (TV.bool false) none, []) else none) fun y68 => bif okL w then omatch (clL w 0) (bif y68 == 0 then some (TEnd.ret (TV.bool false) none, []) else some (TEnd.ret (TV.bool false) none, [])) fun y71 => bif y68 == y71 then some (TEnd.ret (TV.bool true) none, []) else some (TEnd.ret (TV.bool false) none, []) else none else none) = some (.ret (.bool true) none, []) := by
    intro w hw
    subst hw
    simp only [hl, cond]
    cases clL w 0 with
    | none => rfl
    | some m => simp [omatch]
  cases hz : atR l n with
  | none =>
    simp only [omatch_none]
    rw [G3_loop _ _ _ l _ (by decide) _ _ _ _ _ _ _ _ _ _ _ _ _ 0 N rfl (by simp [zeroT, allOf, usedOf, heapsOf, fheaps]; omega)]
    exact tail l rfl
  | some z =>
    have hz' : smallT z.1 = true := by
      simp only [atR] at hz
      split at hz
      · cases hz
      · exact atL_small a3 hz
    have hs : smallS z.1.supers z.1.comp.params z.1.comp.results z.1.comp.fields = true := hz'
    have hu := allOf_small hz'
    simp only [omatch_some, hs, sameSub_refl, Bool.not_true]
    rw [G3_loop _ _ _ l _ (by omega) _ _ _ _ _ _ _ _ _ _ _ _ _ 0 N rfl (by rw [List.drop_zero]; omega)]
    simp only [bne_self_eq_false]
    exact tail l rfl

/-- The walk of TypesCounts, done. -/
theorem counts_true (l : List RecT) (n : Int) (hl : okL l = true) (hn : n ≤ 9223372036854775807) :
    ACalls Tryd.prog 3 (TV.avs [.slice .grp l, .int .i64 n]) (hA []) fun ae ah => ae = TEnd.av (.ret (.bool true) none) ∧ ah = hA [] :=
  ac3 549755813889 l n (G3_eq _ (by omega) l n hl hn)
end SD
