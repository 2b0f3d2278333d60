/- D2p -/
import Derived.Test.YtijochhhibgcaaaDoorD2
import Derived.Test.YtijochhhibgcaaaDoorD1q
set_option linter.unusedSimpArgs false
namespace SD
open Go Go.AW Go.Proofs

def sameVs : List ValT → List ValT → Bool
  | [], [] => true
  | x :: a, y :: b => sameV x y && sameVs a b
  | _, _ => false
theorem sameVs_len : ∀ {a b : List ValT}, a.length ≠ b.length → sameVs a b = false
  | [], [], h => absurd rfl h
  | [], _ :: _, _ => rfl
  | _ :: _, [], _ => rfl
  | x :: a, y :: b, h => by
    have : a.length ≠ b.length := fun e => h (by simp [e])
    simp [sameVs, sameVs_len this]

theorem G28_loop (N : Nat) (k0 : Bool → Res) (k1 : Res) (a b : List ValT) (hl : a.length ≤ 1099511627776) : ∀ (r s : List ValT) (i n : Nat), a.drop i = r → b.drop i = s → r.length = s.length → r.length < n → G28_58 N k0 k1 n a b i = bif sameVs r s then k1 else k0 false := by
  intro r
  induction r with
  | nil =>
    intro s i n hr hs he hn
    obtain ⟨n, rfl⟩ : ∃ m, n = m + 1 := ⟨n - 1, by omega⟩
    have : s = [] := List.eq_nil_of_length_eq_zero he.symm
    subst this
    simp only [G28_58, G28_58_st, dec_nlt (get_nil hr), cond, sameVs]
  | cons x r ih =>
    intro s i n hr hs he hn
    cases s with
    | nil => cases he
    | cons y s =>
      obtain ⟨n, rfl⟩ : ∃ m, n = m + 1 := ⟨n - 1, by omega⟩
      obtain ⟨h1, h2, h3⟩ := get_cons hr
      obtain ⟨g1, g2, g3⟩ := get_cons hs
      simp only [List.length_cons] at he hn
      simp only [G28_58, G28_58_st, dec_lt h1, dec_nat, cond, toNat_cast, h2, g2, omatch_some]
      rw [i64_succ (by omega), ih s (i + 1) n h3 g3 (by omega) (by omega)]
      simp only [sameVs]
      cases sameV x y <;> rfl

def sp28 : FSpec := fun args h K => match args, h with
  | [.slice .val a, .slice .val b], [] => bif decide (a.length ≤ 1099511627776) then K (.ret (.bool (sameVs a b)) none) [] else none
  | _, _ => none
theorem sp28_ok : SpOk Tryd.prog 28 sp28 := by
  intro args h K r hk
  unfold sp28 at hk
  split at hk
  · rename_i a b
    obtain ⟨h1, hk⟩ := bd hk
    refine ⟨_, _, hk, by kernel_rfl, ac28 (a.length + 1) a b ?_⟩
    simp only [G28]
    by_cases he : a.length = b.length
    · have h0 : ((a.length : Int) != (b.length : Int)) = false := by simp [he]
      rw [h0, show (0 : Int) = ((0 : Nat) : Int) from rfl]
      simp only [cond]
      rw [G28_loop _ _ _ a b h1 a b 0 _ rfl rfl he (by omega)]
      cases sameVs a b <;> rfl
    · have h0 : ((a.length : Int) != (b.length : Int)) = true := by simp; omega
      rw [h0, sameVs_len he]; rfl
  · cases hk

def sameF (a b : FieldT) : Bool := a.mt == b.mt && sameV a.ty b.ty
def sameFs : List FieldT → List FieldT → Bool
  | [], [] => true
  | x :: a, y :: b => sameF x y && sameFs a b
  | _, _ => false
theorem sameFs_len : ∀ {a b : List FieldT}, a.length ≠ b.length → sameFs a b = false
  | [], [], h => absurd rfl h
  | [], _ :: _, _ => rfl
  | _ :: _, [], _ => rfl
  | x :: a, y :: b, h => by
    have : a.length ≠ b.length := fun e => h (by simp [e])
    simp [sameFs, sameFs_len this]
theorem G29_loop (N : Nat) (k0 : Bool → Res) (k1 : Res) (a b : List FieldT) (hl : a.length ≤ 1099511627776) : ∀ (r s : List FieldT) (i n : Nat), a.drop i = r → b.drop i = s → r.length = s.length → r.length < n → G29_58 N k0 k1 n a b i = bif sameFs r s then k1 else k0 false := by
  intro r
  induction r with
  | nil =>
    intro s i n hr hs he hn
    obtain ⟨n, rfl⟩ : ∃ m, n = m + 1 := ⟨n - 1, by omega⟩
    have : s = [] := List.eq_nil_of_length_eq_zero he.symm
    subst this
    simp only [G29_58, G29_58_st, dec_nlt (get_nil hr), cond, sameFs]
  | cons x r ih =>
    intro s i n hr hs he hn
    cases s with
    | nil => cases he
    | cons y s =>
      obtain ⟨n, rfl⟩ : ∃ m, n = m + 1 := ⟨n - 1, by omega⟩
      obtain ⟨h1, h2, h3⟩ := get_cons hr
      obtain ⟨g1, g2, g3⟩ := get_cons hs
      simp only [List.length_cons] at he hn
      simp only [G29_58, G29_58_st, dec_lt h1, dec_nat, cond, toNat_cast, h2, g2, omatch_some]
      rw [i64_succ (by omega), ih s (i + 1) n h3 g3 (by omega) (by omega)]
      simp only [sameFs, sameF, bne]
      cases (x.mt == y.mt) <;> cases sameV x.ty y.ty <;> rfl
def sp29 : FSpec := fun args h K => match args, h with
  | [.slice .field a, .slice .field b], [] => bif decide (a.length ≤ 1099511627776) then K (.ret (.bool (sameFs a b)) none) [] else none
  | _, _ => none
theorem sp29_ok : SpOk Tryd.prog 29 sp29 := by
  intro args h K r hk
  unfold sp29 at hk
  split at hk
  · rename_i a b
    obtain ⟨h1, hk⟩ := bd hk
    refine ⟨_, _, hk, by kernel_rfl, ac29 (a.length + 1) a b ?_⟩
    simp only [G29]
    by_cases he : a.length = b.length
    · have h0 : ((a.length : Int) != (b.length : Int)) = false := by simp [he]
      rw [h0, show (0 : Int) = ((0 : Nat) : Int) from rfl]
      simp only [cond]
      rw [G29_loop _ _ _ a b h1 a b 0 _ rfl rfl he (by omega)]
      cases sameFs a b <;> rfl
    · have h0 : ((a.length : Int) != (b.length : Int)) = true := by simp; omega
      rw [h0, sameFs_len he]; rfl
  · cases hk

def fheaps (l : List FieldT) : List Int := heapsOf (l.map (·.ty))
def allOf (s : SubT) : List Int := s.supers ++ heapsOf s.comp.params ++ heapsOf s.comp.results ++ fheaps s.comp.fields
theorem fheaps_cons (x : FieldT) (l : List FieldT) : fheaps (x :: l) = heapsOf [x.ty] ++ fheaps l := by
  unfold fheaps; rw [List.map_cons, heapsOf_cons, heapsOf_cons]; simp [heapsOf]
theorem heaps1_len (x : ValT) : (heapsOf [x]).length ≤ 1 := heapsOf_len [x]
theorem fheaps_len (l : List FieldT) : (fheaps l).length ≤ l.length := by
  have := heapsOf_len (l.map (·.ty)); simpa [fheaps] using this

theorem G31_loop (N : Nat) (k0 : List Int → Bool → List Int → Int → List ValT → List ValT → List FieldT → Res) (b : Bool) (su : List Int) (kd : Int) (p q : List ValT) (l : List FieldT) (hl : l.length ≤ 1099511627776) : ∀ (r : List FieldT) (i n : Nat) (acc : List Int), l.drop i = r → r.length < n → acc.length + r.length ≤ 17592186044416 →
    G31_506 N k0 n acc i b su kd p q l = k0 (acc ++ fheaps r) b su kd p q l := by
  intro r
  induction r with
  | nil =>
    intro i n acc hr hn hb
    obtain ⟨n, rfl⟩ : ∃ m, n = m + 1 := ⟨n - 1, by omega⟩
    simp only [G31_506, G31_506_st, dec_nlt (get_nil hr), cond, fheaps, heapsOf, List.filter_nil, List.map_nil, List.append_nil]
  | cons x r ih =>
    intro i n acc hr hn hb
    obtain ⟨n, rfl⟩ : ∃ m, n = m + 1 := ⟨n - 1, by omega⟩
    obtain ⟨h1, h2, h3⟩ := get_cons hr
    simp only [List.length_cons] at hb hn
    have hx := heaps1_len x.ty
    simp only [G31_506, G31_506_st, dec_lt h1, dec_nat, cond, toNat_cast, h2, omatch_some]
    rw [i64_succ (by omega), room (by omega) (by omega), fheaps_cons, ← List.append_assoc]
    exact ih (i + 1) n _ h3 (by omega) (by simp; omega)

def sp31 : FSpec := fun args h K => match args, h with
  | [.agg [.bool f, .slice (.int .i64) su, .int .i64 k, .slice .val p, .slice .val q, .slice .field l]], [] =>
    bif decide (su.length ≤ 1099511627776 ∧ p.length ≤ 1099511627776 ∧ q.length ≤ 1099511627776 ∧ l.length ≤ 1099511627776) then K (.ret (.slice (.int .i64) (allOf ⟨f, su, ⟨k, p, q, l⟩⟩)) (some 3)) [] else none
  | _, _ => none
theorem sp31_ok : SpOk Tryd.prog 31 sp31 := by
  intro args h K r hk
  unfold sp31 at hk
  split at hk
  · rename_i f su k p q l
    obtain ⟨⟨h1, h2, h3, h4⟩, hk⟩ := bd hk
    refine ⟨_, _, hk, by kernel_rfl, ac31 (l.length + 1) ⟨f, su, ⟨k, p, q, l⟩⟩ ?_⟩
    have e1 := heapsOf_len p
    have e2 := heapsOf_len q
    simp only [G31]
    rw [room (by omega) (by omega), decide_eq_true h2, room (by omega) (by omega), decide_eq_true h3, room (by simp; omega) (by simp; omega), show (0 : Int) = ((0 : Nat) : Int) from rfl]
    simp only [cond]
    rw [G31_loop _ _ _ _ _ _ _ _ h4 l 0 _ _ rfl (by omega) (by simp; omega)]
    rfl
  · cases hk

def turnV (f : List Int) (v : ValT) : List Int := if v.num == 5 then f else []
def sp51 : FSpec := fun args h K => match args, h with
  | [.agg [.int .i64 a, .bool b, .int .i64 c], .ptr 0 0], [[⟨.func 27 [] [], none⟩]] => K (.ret (.agg [.int .i64 a, .bool b, .int .i64 c]) none) [[⟨.func 27 [] [], none⟩]]
  | [.agg [.int .i64 a, .bool b, .int .i64 c], .ptr 0 0], [[⟨.func 30 [] [.ptr 1 0], none⟩], [⟨.slice (.int .i64) l, some 3⟩]] =>
    bif decide (l.length ≤ 1099511627776) then K (.ret (.agg [.int .i64 a, .bool b, .int .i64 c]) none) [[⟨.func 30 [] [.ptr 1 0], none⟩], [⟨.slice (.int .i64) (l ++ usedOf (heapsOf [⟨a, b, c⟩])), some 3⟩]] else none
  | [.agg [.int .i64 a, .bool b, .int .i64 c], .ptr 0 0], [[⟨.func 32 [] [.ptr 1 0, .ptr 2 0], none⟩], [⟨.bool ok, none⟩], [⟨.int .i64 e, none⟩]] =>
    K (.ret (.agg [.int .i64 a, .bool b, .int .i64 c]) none) [[⟨.func 32 [] [.ptr 1 0, .ptr 2 0], none⟩], [⟨.bool ((heapsOf [⟨a, b, c⟩]).foldl (fun o x => okOf o e x) ok), none⟩], [⟨.int .i64 e, none⟩]]
  | _, _ => none
theorem heaps1 (v : ValT) : heapsOf [v] = if v.num == 5 then [v.heap] else [] := by
  rw [heapsOf_cons]; simp [heapsOf]
theorem sp51_ok : SpOk Tryd.prog 51 sp51 := by
  intro args h K r hk
  unfold sp51 at hk
  split at hk
  · rename_i a b c
    refine ⟨_, _, hk, by kernel_rfl, ac51a 0 ⟨a, b, c⟩ ?_⟩
    simp only [G51a]
    cases (a == 5) <;> rfl
  · rename_i a b c l
    obtain ⟨h1, hk⟩ := bd hk
    refine ⟨_, _, hk, by kernel_rfl, ac51b 0 ⟨a, b, c⟩ l ?_⟩
    simp only [G51b, heaps1, decide_eq_true h1]
    cases (a == 5)
    · simp [usedOf]
    · rfl
  · rename_i a b c ok e
    refine ⟨_, _, hk, by kernel_rfl, ac51c 0 ⟨a, b, c⟩ ok e ?_⟩
    simp only [G51c, heaps1]
    cases (a == 5) <;> rfl
  · cases hk
def sp34 : FSpec := fun args h K => match args, h with
  | [.agg [.int .i64 1, .bool false, .int .i64 0]], [] => K (.ret (.str [105, 51, 50]) none) []
  | _, _ => none
theorem sp34_ok : SpOk Tryd.prog 34 sp34 := by
  intro args h K r hk
  unfold sp34 at hk
  split at hk
  · exact ⟨_, _, hk, by kernel_rfl, ac34i 0 () rfl⟩
  · cases hk
end SD
