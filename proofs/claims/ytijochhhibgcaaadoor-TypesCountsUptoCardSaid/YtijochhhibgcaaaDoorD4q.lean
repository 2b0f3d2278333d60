/- Contracts of the types' Closed (both writings). -/
import Derived.Test.YtijochhhibgcaaaDoorD4p
set_option linter.unusedVariables false
set_option maxRecDepth 20000
namespace SD
open Go Go.AW Go.Proofs

def clT (e : Int) : List SubT → Int → Option Int
  | [], _ => none
  | s :: r, n => if fine s e then clT e r (n + 1) else some n
def clL : List RecT → Int → Option Int
  | [], _ => none
  | g :: r, e => match clT (e + g.types.length) g.types e with | some m => some m | none => clL r (e + g.types.length)

theorem foldl_ok (e : Int) : ∀ (l : List Int) (b : Bool), l.foldl (fun o x => okOf o e x) b = (b && fineA e l) := by
  intro l
  induction l with
  | nil => intro b; simp [fineA]
  | cons x r ih =>
    intro b
    rw [List.foldl_cons, ih]
    simp only [okOf, fineA, List.all_cons, Bool.and_assoc, ge_iff_le]

theorem fine_eq (s : SubT) (e : Int) : (allOf s).foldl (fun o x => okOf o e x) (s.supers.all fun x => decide (x ≥ 0)) = fine s e := by
  rw [foldl_ok, fine]
  apply Bool.eq_iff_iff.2
  simp only [Bool.and_eq_true, fineS, fineA, List.all_eq_true, decide_eq_true_eq]
  constructor
  · rintro ⟨h1, h2⟩
    exact ⟨fun x hx => ⟨h1 x hx, (h2 x (by simp [allOf, hx])).1⟩, h2⟩
  · rintro ⟨h1, h2⟩
    exact ⟨fun x hx => (h1 x hx).1, h2⟩

theorem G14c_loop (N : Nat) (k0 : Int → List RecT → Int → Int → List SubT → Int → Int → Int → List SubT → Bool → Bool → List Int → Int → List ValT → List ValT → List FieldT → Bool → Res) (xs : List Int) (hl : xs.length ≤ 549755813888) (a0 : Int) (a1 : List RecT) (a2 a3 : Int) (a4 : List SubT) (a5 a6 : Int) (a10 : Int) (a11 : List SubT) (a12 a13 : Bool) (a14 : List Int) (a15 : Int) (a16 a17 : List ValT) (a18 : List FieldT) :
    ∀ (r : List Int) (i n : Nat) (ok : Bool), xs.drop i = r → r.length < n → G14_30620058 N k0 n a0 a1 a2 a3 a4 a5 a6 xs xs.length i a10 a11 a12 a13 a14 a15 a16 a17 a18 ok = k0 a0 a1 a2 a3 a4 a5 a6 a10 a11 a12 a13 a14 a15 a16 a17 a18 (ok && r.all fun x => decide (x ≥ 0)) := by
  intro r
  induction r with
  | nil =>
    intro i n ok hr hn
    obtain ⟨n, rfl⟩ : ∃ m, n = m + 1 := ⟨n - 1, by omega⟩
    simp only [G14_30620058, G14_30620058_st, dec_nlt (get_nil hr), cond, List.all_nil, Bool.and_true]
  | cons x r ih =>
    intro i n ok hr hn
    obtain ⟨n, rfl⟩ : ∃ m, n = m + 1 := ⟨n - 1, by omega⟩
    obtain ⟨h1, h2, h3⟩ := get_cons hr
    simp only [List.length_cons] at hn
    simp only [G14_30620058, G14_30620058_st, dec_lt h1, dec_nat, cond, toNat_cast, h2, omatch_some]
    cases ok
    · simp only [i64_succ (show i < 4611686018427387904 by omega), ih (i + 1) n _ h3 (by omega), Bool.false_and]
    · simp only [i64_succ (show i < 4611686018427387904 by omega), ih (i + 1) n _ h3 (by omega), List.all_cons, Bool.true_and]

theorem small_len {s : SubT} (h : smallT s = true) : s.supers.length ≤ 549755813888 := by
  have := small_of h; omega

theorem G14b_loop (N : Nat) (hN : 549755813888 < N) (k0 : Int → Int → Int → List SubT → Bool → Res) (k1 : Int → List RecT → Int → Int → Int → List SubT → Bool → Res) (xs : List SubT) (hl : xs.length ≤ 549755813888) (hs : xs.all smallT = true) (a1 : List RecT) (a2 a3 a7 : Int) (a8 : List SubT) (a9 : Bool) :
    ∀ (r : List SubT) (i n : Nat) (c : Int), xs.drop i = r → r.length < n → 0 ≤ c → c + r.length ≤ 549755813888 → G14_29902 N k0 k1 n c a1 a2 a3 xs xs.length i a7 a8 a9 = match clT a7 r c with | some m => k0 m 50 a7 a8 a9 | none => k1 (c + r.length) a1 a2 a3 a7 a8 a9 := by
  intro r
  induction r with
  | nil =>
    intro i n c hr hn h0 hb
    obtain ⟨n, rfl⟩ : ∃ m, n = m + 1 := ⟨n - 1, by omega⟩
    simp only [G14_29902, G14_29902_st, dec_nlt (get_nil hr), cond, clT, List.length_nil, Int.ofNat_zero, Int.add_zero]
  | cons x r ih =>
    intro i n c hr hn h0 hb
    obtain ⟨n, rfl⟩ : ∃ m, n = m + 1 := ⟨n - 1, by omega⟩
    obtain ⟨h1, h2, h3⟩ := get_cons hr
    simp only [List.length_cons] at hn hb
    have hx : smallT x = true := by
      simp only [List.all_eq_true] at hs
      exact hs x (List.mem_of_getElem? h2)
    have hx' := small_len hx
    simp only [G14_29902, G14_29902_st, dec_lt h1, dec_nat, cond, toNat_cast, h2, omatch_some]
    rw [zero_cast, G14c_loop _ _ _ hx' _ _ _ _ _ _ _ _ _ _ _ _ _ _ _ _ x.supers 0 N true rfl (by omega)]
    have hx2 : smallS x.supers x.comp.params x.comp.results x.comp.fields = true := hx
    simp only [hx2, Bool.true_and]
    have := fine_eq x a7
    simp only [this, clT]
    by_cases hf : fine x a7 = true
    · simp only [hf, Bool.not_true, if_true]
      rw [i64_ok (by omega) (by omega), i64_succ (by omega), ih (i + 1) n _ h3 (by omega) (by omega) (by omega)]
      simp only [List.length_cons]
      rw [show c + 1 + (r.length : Int) = c + ((r.length + 1 : Nat) : Int) by omega]
    · simp only [Bool.not_eq_true] at hf
      simp only [hf, Bool.not_false, Bool.false_eq_true, if_false]

theorem cnt_cons (g : RecT) (r : List RecT) : cnt (g :: r) = g.types.length + cnt r := rfl

theorem G14a_loop (N : Nat) (hN : 549755813888 < N) (k0 : Int → Int → Res) (k1 : Int → Res) (l : List RecT) (hl : l.length ≤ 549755813888) (hs : smallG l = true) :
    ∀ (r : List RecT) (i n : Nat) (e : Int), l.drop i = r → r.length < n → 0 ≤ e → e + cnt r ≤ 549755813888 → G14_58 N (fun a b _ => k0 a b) k1 n e l l.length i e = match clL r e with | some m => k0 m 50 | none => k1 (e + cnt r) := by
  intro r
  induction r with
  | nil =>
    intro i n e hr hn h0 hb
    obtain ⟨n, rfl⟩ : ∃ m, n = m + 1 := ⟨n - 1, by omega⟩
    simp only [G14_58, G14_58_st, dec_nlt (get_nil hr), cond, clL, cnt, Int.add_zero]
  | cons x r ih =>
    intro i n e hr hn h0 hb
    obtain ⟨n, rfl⟩ : ∃ m, n = m + 1 := ⟨n - 1, by omega⟩
    obtain ⟨h1, h2, h3⟩ := get_cons hr
    simp only [List.length_cons, cnt_cons] at hn hb
    have hc := cnt_pos r
    have hx : x.types.all smallT = true := by
      simp only [smallG, List.all_eq_true] at hs ⊢
      exact hs x (List.mem_of_getElem? h2)
    simp only [G14_58, G14_58_st, dec_lt h1, dec_nat, cond, toNat_cast, h2, omatch_some]
    rw [i64_ok (show -9223372036854775808 ≤ e + (x.types.length : Int) by omega) (by omega), zero_cast, G14b_loop N hN _ _ x.types (by omega) hx _ _ _ _ _ _ x.types 0 N e rfl (by omega) h0 (by omega)]
    simp only [clL]
    cases clT (e + x.types.length) x.types e with
    | some m => rfl
    | none =>
      simp only
      rw [i64_succ (by omega), ih (i + 1) n _ h3 (by omega) (by omega) (by omega), cnt_cons, Int.add_assoc]

theorem G15b_loop (N : Nat) (k0 : Int → Int → Res) (k1 : List RecT → Int → Int → Int → Res) (l : List RecT) (hs : smallG l = true) (g : Nat) (x : RecT) (hx : l[g]? = some x) (hl : x.types.length ≤ 549755813888) (c e : Int) (h0 : 0 ≤ c) (hb : c + x.types.length ≤ 549755813888) :
    ∀ (r : List SubT) (i n : Nat), x.types.drop i = r → r.length < n → G15_14922 N k0 k1 n l c g e i = match clT e r (c + i) with | some m => k0 m 50 | none => k1 l c g e := by
  intro r
  induction r with
  | nil =>
    intro i n hr hn
    obtain ⟨n, rfl⟩ : ∃ m, n = m + 1 := ⟨n - 1, by omega⟩
    simp only [G15_14922, G15_14922_st, dec_nat, toNat_cast, hx, omatch_some, dec_nlt (get_nil hr), cond, clT]
  | cons s r ih =>
    intro i n hr hn
    obtain ⟨n, rfl⟩ : ∃ m, n = m + 1 := ⟨n - 1, by omega⟩
    obtain ⟨h1, h2, h3⟩ := get_cons hr
    simp only [List.length_cons] at hn
    have hsm := types_small hs hx h2
    simp only [smallT] at hsm
    simp only [G15_14922, G15_14922_st, dec_nat, toNat_cast, hx, omatch_some, dec_lt h1, cond, h2, hsm, clT]
    by_cases hf : fine s e = true
    · simp only [hf, Bool.not_true, if_true]
      rw [i64_succ (by omega), ih (i + 1) n h3 (by omega), show c + ((i + 1 : Nat) : Int) = c + i + 1 by omega]
    · simp only [Bool.not_eq_true] at hf
      simp only [hf, Bool.not_false, Bool.false_eq_true, if_false]
      rw [i64_ok (by omega) (by omega)]

theorem G15a_loop (N : Nat) (hN : 549755813888 < N) (k0 : Int → Int → Res) (k1 : Res) (l : List RecT) (hl : l.length ≤ 549755813888) (hs : smallG l = true) :
    ∀ (r : List RecT) (i n : Nat) (e : Int), l.drop i = r → r.length < n → 0 ≤ e → e + cnt r ≤ 549755813888 → G15_58 N k0 k1 n l e i = match clL r e with | some m => k0 m 50 | none => k1 := by
  intro r
  induction r with
  | nil =>
    intro i n e hr hn h0 hb
    obtain ⟨n, rfl⟩ : ∃ m, n = m + 1 := ⟨n - 1, by omega⟩
    simp only [G15_58, G15_58_st, dec_nlt (get_nil hr), cond, clL]
  | cons x r ih =>
    intro i n e hr hn h0 hb
    obtain ⟨n, rfl⟩ : ∃ m, n = m + 1 := ⟨n - 1, by omega⟩
    obtain ⟨h1, h2, h3⟩ := get_cons hr
    simp only [List.length_cons, cnt_cons] at hn hb
    have hc := cnt_pos r
    simp only [G15_58, G15_58_st, dec_lt h1, dec_nat, cond, toNat_cast, h2, omatch_some]
    rw [i64_ok (show -9223372036854775808 ≤ e + (x.types.length : Int) by omega) (by omega), zero_cast, G15b_loop N _ _ l hs i x h2 (by omega) e _ h0 (by omega) x.types 0 N rfl (by omega)]
    simp only [clL, Int.ofNat_zero, Int.add_zero]
    cases clT (e + x.types.length) x.types e with
    | some m => rfl
    | none =>
      simp only
      rw [i64_succ (by omega), ih (i + 1) n _ h3 (by omega) (by omega) (by omega)]

/-- Closed's answer: the first type that is not fine, and 50; or nothing and 0. -/
def clA (l : List RecT) : TV := match clL l 0 with
  | some m => .tup [.int .i64 m, .int .i64 50]
  | none => .tup [.int .i64 0, .int .i64 0]
def spClosed : FSpec := fun args h K => match args, h with
  | [.slice .grp l], [] => bif okL l then
      match clL l 0 with
      | some m => K (.ret (.tup [.int .i64 m, .int .i64 50]) none) []
      | none => K (.ret (.tup [.int .i64 0, .int .i64 0]) none) [] else none
  | _, _ => none
def sp14 := spClosed
def sp15 := spClosed
theorem sp14_ok : SpOk Tryd.prog 14 sp14 := by
  intro args h K r hk
  unfold sp14 spClosed at hk
  split at hk
  · rename_i l
    obtain ⟨h1, hk⟩ := bif_some hk
    obtain ⟨a1, a2, a3⟩ := okL_of h1
    have ac := fun e h => @ac14 549755813889 l e h
    have := G14a_loop 549755813889 (by omega) (fun w0 w1 => some (TEnd.ret (TV.tup [TV.int IntKind.i64 w0, TV.int IntKind.i64 w1]) none, [])) (fun w0 => some (TEnd.ret (TV.tup [TV.int IntKind.i64 0, TV.int IntKind.i64 0]) none, [])) l a1 a3 l 0 549755813889 0 rfl (by omega) (by omega) (by omega)
    have this : G14 549755813889 l = _ := this
    rw [this] at ac
    cases hh : clL l 0 with
    | none => rw [hh] at hk ac; exact ⟨_, _, hk, by kernel_rfl, ac _ _ rfl⟩
    | some z => rw [hh] at hk ac; exact ⟨_, _, hk, by kernel_rfl, ac _ _ rfl⟩
  · cases hk
theorem sp15_ok : SpOk Tryd.prog 15 sp15 := by
  intro args h K r hk
  unfold sp15 spClosed at hk
  split at hk
  · rename_i l
    obtain ⟨h1, hk⟩ := bif_some hk
    obtain ⟨a1, a2, a3⟩ := okL_of h1
    have ac := fun e h => @ac15 549755813889 l e h
    have := G15a_loop 549755813889 (by omega) (fun w0 w1 => some (TEnd.ret (TV.tup [TV.int IntKind.i64 w0, TV.int IntKind.i64 w1]) none, [])) (some (TEnd.ret (TV.tup [TV.int IntKind.i64 0, TV.int IntKind.i64 0]) none, [])) l a1 a3 l 0 549755813889 0 rfl (by omega) (by omega) (by omega)
    have this : G15 549755813889 l = _ := this
    rw [this] at ac
    cases hh : clL l 0 with
    | none => rw [hh] at hk ac; exact ⟨_, _, hk, by kernel_rfl, ac _ _ rfl⟩
    | some z => rw [hh] at hk ac; exact ⟨_, _, hk, by kernel_rfl, ac _ _ rfl⟩
  · cases hk
end SD
