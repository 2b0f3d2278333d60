/- Contracts of the types' At, Uses and Closed (both writings). -/
import Derived.Test.YtijochhhibgcaaaDoorD4
import Derived.Test.YtijochhhibgcaaaDoorD1q
set_option linter.unusedVariables false
set_option maxRecDepth 20000
namespace SD
open Go Go.AW Go.Proofs

def smallT (s : SubT) : Bool := smallS s.supers s.comp.params s.comp.results s.comp.fields
def smallG (l : List RecT) : Bool := l.all fun g => g.types.all smallT
def okL (l : List RecT) : Bool := decide (l.length ≤ 549755813888) && (decide (cnt l ≤ 549755813888) && smallG l)
theorem okL_of {l : List RecT} (h : okL l = true) : l.length ≤ 549755813888 ∧ cnt l ≤ 549755813888 ∧ smallG l = true := by
  simpa [okL] using h

/-- The n-th type of the groups: itself, its group's place, its place in the group. -/
def atL : List RecT → Int → Nat → Option (SubT × Int × Int)
  | [], _, _ => none
  | g :: r, n, i => if n < g.types.length then match g.types[n.toNat]? with | some s => some (s, (i : Int), n) | none => none else atL r (n - g.types.length) (i + 1)

theorem types_small {l : List RecT} {g : RecT} {i j : Nat} {s : SubT} (h : smallG l = true) (hg : l[i]? = some g) (hs : g.types[j]? = some s) : smallT s = true := by
  simp only [smallG, List.all_eq_true] at h
  exact h g (List.mem_of_getElem? hg) s (List.mem_of_getElem? hs)

theorem lt_get {α : Type} {l : List α} {n : Int} (h0 : 0 ≤ n) (h : n < l.length) : ∃ x, l[n.toNat]? = some x :=
  ⟨l[n.toNat]'(by omega), List.getElem?_eq_getElem (by omega)⟩

theorem G7_loop (N : Nat) (k0 : Int → Int → Int → Bool → List Int → Int → List ValT → List ValT → List FieldT → Res) (k1 : Bool → List Int → Int → List ValT → List ValT → List FieldT → Res) (l : List RecT) (hl : l.length ≤ 549755813888) (hs : smallG l = true) (f : Bool) (su : List Int) (k : Int) (p q : List ValT) (fl : List FieldT) :
    ∀ (r : List RecT) (i m : Nat) (n : Int), l.drop i = r → r.length < m → 0 ≤ n → n ≤ 9223372036854775807 →
      G7_106 N k0 k1 m n l l.length i f su k p q fl = match atL r n i with | some (s, g, j) => k0 g j 0 s.final s.supers s.comp.kind s.comp.params s.comp.results s.comp.fields | none => k1 f su k p q fl := by
  intro r
  induction r with
  | nil =>
    intro i m n hr hn h0 h1
    obtain ⟨m, rfl⟩ : ∃ k, m = k + 1 := ⟨m - 1, by omega⟩
    simp only [G7_106, G7_106_st, dec_nlt (get_nil hr), cond, atL]
  | cons x r ih =>
    intro i m n hr hn h0 h1
    obtain ⟨m, rfl⟩ : ∃ k, m = k + 1 := ⟨m - 1, by omega⟩
    obtain ⟨e1, e2, e3⟩ := get_cons hr
    simp only [List.length_cons] at hn
    simp only [G7_106, G7_106_st, dec_lt e1, dec_nat, cond, toNat_cast, e2, omatch_some, atL]
    by_cases hb : n < x.types.length
    · obtain ⟨s, hs1⟩ := lt_get h0 hb
      have hsm := types_small hs e2 hs1
      simp only [smallT] at hsm
      simp only [hb, h0, decide_true, hs1, omatch_some, hsm, if_true]
    · simp only [hb, decide_false, if_false]
      rw [i64_ok (by omega) (by omega), i64_succ (by omega), ih (i + 1) m _ e3 (by omega) (by omega) (by omega)]

theorem G8_loop (N : Nat) (k0 : Int → Int → Bool → Bool → List Int → Int → List ValT → List ValT → List FieldT → Res) (k1 : Bool → List Int → Int → List ValT → List ValT → List FieldT → Res) (l : List RecT) (hl : l.length ≤ 549755813888) (f : Bool) (su : List Int) (k : Int) (p q : List ValT) (fl : List FieldT) :
    ∀ (r : List RecT) (i m : Nat) (n : Int), l.drop i = r → r.length < m → 0 ≤ n → n ≤ 9223372036854775807 →
      G8_58 N k0 k1 m l n i f su k p q fl = match atL r n i with | some (s, g, j) => k0 g j true s.final s.supers s.comp.kind s.comp.params s.comp.results s.comp.fields | none => k1 f su k p q fl := by
  intro r
  induction r with
  | nil =>
    intro i m n hr hn h0 h1
    obtain ⟨m, rfl⟩ : ∃ k, m = k + 1 := ⟨m - 1, by omega⟩
    simp only [G8_58, G8_58_st, dec_nlt (get_nil hr), cond, atL]
  | cons x r ih =>
    intro i m n hr hn h0 h1
    obtain ⟨m, rfl⟩ : ∃ k, m = k + 1 := ⟨m - 1, by omega⟩
    obtain ⟨e1, e2, e3⟩ := get_cons hr
    simp only [List.length_cons] at hn
    simp only [G8_58, G8_58_st, dec_lt e1, dec_nat, cond, toNat_cast, e2, omatch_some, atL]
    by_cases hb : n < x.types.length
    · obtain ⟨s, hs1⟩ := lt_get h0 hb
      simp only [hb, h0, decide_true, hs1, omatch_some, if_true]
    · simp only [hb, decide_false, if_false]
      rw [i64_ok (by omega) (by omega), i64_succ (by omega), ih (i + 1) m _ e3 (by omega) (by omega) (by omega)]

def zeroT : SubT := ⟨false, [], ⟨0, [], [], []⟩⟩
def atR (l : List RecT) (n : Int) : Option (SubT × Int × Int) := if n < 0 then none else atL l n 0

/-- At's answer, `g` its last part when a type was found, `b` when none was. -/
def atA (g b : TV) : Option (SubT × Int × Int) → TV
  | some (s, i, j) => .tup [.agg (encC .sub s), .int .i64 i, .int .i64 j, g]
  | none => .tup [.agg (encC .sub zeroT), .int .i64 0, .int .i64 0, b]

def sp7 : FSpec := fun args h K => match args, h with
  | [.slice .grp l, .int .i64 n], [] => bif okL l && decide (n ≤ 9223372036854775807) then
      match atR l n with
      | some (s, i, j) => K (.ret (.tup [.agg (encC .sub s), .int .i64 i, .int .i64 j, .int .i64 0]) none) []
      | none => K (.ret (.tup [.agg (encC .sub zeroT), .int .i64 0, .int .i64 0, .int .i64 50]) none) [] else none
  | _, _ => none
def sp8 : FSpec := fun args h K => match args, h with
  | [.slice .grp l, .int .i64 n], [] => bif okL l && decide (n ≤ 9223372036854775807) then
      match atR l n with
      | some (s, i, j) => K (.ret (.tup [.agg (encC .sub s), .int .i64 i, .int .i64 j, .bool true]) none) []
      | none => K (.ret (.tup [.agg (encC .sub zeroT), .int .i64 0, .int .i64 0, .bool false]) none) [] else none
  | _, _ => none

theorem sp7_ok : SpOk Tryd.prog 7 sp7 := by
  intro args h K r hk
  unfold sp7 at hk
  split at hk
  · rename_i l n
    obtain ⟨h1, hk⟩ := bif_some hk
    simp only [Bool.and_eq_true, decide_eq_true_eq] at h1
    obtain ⟨h1, h2⟩ := h1
    obtain ⟨a1, a2, a3⟩ := okL_of h1
    have ac := fun e h => @ac7 (l.length + 1) l n e h
    simp only [G7, zero_cast] at ac
    by_cases hn : n < 0
    · simp only [atR, hn, if_true] at hk
      simp only [show ¬ n ≥ ((0 : Nat) : Int) by omega, decide_false, cond] at ac
      exact ⟨_, _, hk, by kernel_rfl, ac _ _ rfl⟩
    · simp only [atR, hn, if_false] at hk
      simp only [show n ≥ ((0 : Nat) : Int) by omega, decide_true, cond] at ac
      have := G7_loop (l.length + 1) (fun w0 w1 w2 w3 w4 w5 w6 w7 w8 => some (TEnd.ret (TV.tup [TV.agg [TV.bool w3, TV.slice (TC.int IntKind.i64) w4, TV.int IntKind.i64 w5, TV.slice TC.val w6, TV.slice TC.val w7, TV.slice TC.field w8], TV.int IntKind.i64 w0, TV.int IntKind.i64 w1, TV.int IntKind.i64 w2]) none, [])) (fun w0 w1 w2 w3 w4 w5 => some (TEnd.ret (TV.tup [TV.agg [TV.bool false, TV.slice (TC.int IntKind.i64) [], TV.int IntKind.i64 0, TV.slice TC.val [], TV.slice TC.val [], TV.slice TC.field []], TV.int IntKind.i64 0, TV.int IntKind.i64 0, TV.int IntKind.i64 50]) none, [])) l a1 a3 false [] 0 [] [] [] l 0 (l.length + 1) n rfl (by omega) (by omega) h2
      simp only [zero_cast] at this
      rw [this] at ac
      clear this
      cases hh : atL l n 0 with
      | none =>
        rw [hh] at hk ac
        exact ⟨_, _, hk, by kernel_rfl, ac _ _ rfl⟩
      | some z =>
        rw [hh] at hk ac
        exact ⟨_, _, hk, by kernel_rfl, ac _ _ rfl⟩
  · cases hk

theorem sp8_ok : SpOk Tryd.prog 8 sp8 := by
  intro args h K r hk
  unfold sp8 at hk
  split at hk
  · rename_i l n
    obtain ⟨h1, hk⟩ := bif_some hk
    simp only [Bool.and_eq_true, decide_eq_true_eq] at h1
    obtain ⟨h1, h2⟩ := h1
    obtain ⟨a1, a2, a3⟩ := okL_of h1
    have ac := fun e h => @ac8 (l.length + 1) l n e h
    simp only [G8, zero_cast] at ac
    by_cases hn : n < 0
    · simp only [atR, hn, if_true] at hk
      simp only [show n < ((0 : Nat) : Int) by omega, decide_true, cond] at ac
      exact ⟨_, _, hk, by kernel_rfl, ac _ _ rfl⟩
    · simp only [atR, hn, if_false] at hk
      simp only [show ¬ n < ((0 : Nat) : Int) by omega, decide_false, cond] at ac
      have := G8_loop (l.length + 1) (fun w0 w1 w2 w3 w4 w5 w6 w7 w8 => some (TEnd.ret (TV.tup [TV.agg [TV.bool w3, TV.slice (TC.int IntKind.i64) w4, TV.int IntKind.i64 w5, TV.slice TC.val w6, TV.slice TC.val w7, TV.slice TC.field w8], TV.int IntKind.i64 w0, TV.int IntKind.i64 w1, TV.bool w2]) none, [])) (fun w0 w1 w2 w3 w4 w5 => some (TEnd.ret (TV.tup [TV.agg [TV.bool false, TV.slice (TC.int IntKind.i64) [], TV.int IntKind.i64 0, TV.slice TC.val [], TV.slice TC.val [], TV.slice TC.field []], TV.int IntKind.i64 0, TV.int IntKind.i64 0, TV.bool false]) none, [])) l a1 false [] 0 [] [] [] l 0 (l.length + 1) n rfl (by omega) (by omega) h2
      simp only [zero_cast] at this
      rw [this] at ac
      clear this
      cases hh : atL l n 0 with
      | none =>
        rw [hh] at hk ac
        exact ⟨_, _, hk, by kernel_rfl, ac _ _ rfl⟩
      | some z =>
        rw [hh] at hk ac
        exact ⟨_, _, hk, by kernel_rfl, ac _ _ rfl⟩
  · cases hk

def sp12 : FSpec := fun args h K => match args, h with
  | [.agg [.bool f, .slice (.int .i64) su, .int .i64 k, .slice .val p, .slice .val q, .slice .field fl]], [] =>
    bif smallS su p q fl then K (.ret (.slice (.int .i64) (usedOf (allOf ⟨f, su, ⟨k, p, q, fl⟩⟩))) none) [] else none
  | _, _ => none
theorem sp12_ok : SpOk Tryd.prog 12 sp12 := by
  intro args h K r hk
  unfold sp12 at hk
  split at hk
  · rename_i f su k p q fl
    obtain ⟨h1, hk⟩ := bif_some hk
    refine ⟨_, _, hk, by kernel_rfl, ac12 0 ⟨f, su, ⟨k, p, q, fl⟩⟩ ?_⟩
    simp only [G12, h1, Bool.true_and]
    rfl
  · cases hk
end SD
