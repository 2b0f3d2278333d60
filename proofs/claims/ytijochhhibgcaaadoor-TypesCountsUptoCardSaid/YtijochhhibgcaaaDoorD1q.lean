/- D1q -/
import Derived.Test.YtijochhhibgcaaaDoorD1p
set_option linter.unusedSimpArgs false
namespace SD
open Go Go.AW Go.Proofs
/-- What the closures of At, Uses and Closed are told to do. -/
def sp27 : FSpec := fun args h K => match args, h with
  | [.int .i64 x], [] => K (.ret (.int .i64 x) none) []
  | _, _ => none
theorem sp27_ok : SpOk Tryd.prog 27 sp27 := by
  intro args h K r hk
  unfold sp27 at hk
  split at hk
  · exact ⟨_, _, hk, by kernel_rfl, ac27 0 _ rfl⟩
  · cases hk
def usedOf (l : List Int) : List Int := l.filter fun x => decide (x ≥ 0)
def sp30 : FSpec := fun args h K => match args, h with
  | [.int .i64 x, .ptr 0 0], [[⟨.slice (.int .i64) l, some 3⟩]] => bif decide (l.length ≤ 1099511627776) then K (.ret (.int .i64 x) none) [[⟨.slice (.int .i64) (l ++ usedOf [x]), some 3⟩]] else none
  | _, _ => none
theorem sp30_ok : SpOk Tryd.prog 30 sp30 := by
  intro args h K r hk
  unfold sp30 at hk
  split at hk
  · rename_i x l
    obtain ⟨h1, hk⟩ := bd hk
    refine ⟨_, _, hk, by kernel_rfl, ac30 0 x l ?_⟩
    simp only [G30, usedOf, List.filter_cons, List.filter_nil]
    rw [room (by simp; omega) (by simp; omega)]
    cases decide (x ≥ 0) <;> simp
  · cases hk
def okOf (ok : Bool) (e x : Int) : Bool := ok && (decide (x < e) && decide (x ≥ -12))
def sp32 : FSpec := fun args h K => match args, h with
  | [.int .i64 x, .ptr 0 0, .ptr 1 0], [[⟨.bool ok, none⟩], [⟨.int .i64 e, none⟩]] => K (.ret (.int .i64 x) none) [[⟨.bool (okOf ok e x), none⟩], [⟨.int .i64 e, none⟩]]
  | _, _ => none
theorem sp32_ok : SpOk Tryd.prog 32 sp32 := by
  intro args h K r hk
  unfold sp32 at hk
  split at hk
  · rename_i x ok e
    refine ⟨_, _, hk, by kernel_rfl, ac32 0 x ok e ?_⟩
    simp only [G32, okOf]
    cases ok <;> cases decide (x < e) <;> rfl
  · cases hk
def sp55 : FSpec := fun args h K => match args, h with
  | [], [] => K (.ret (.agg [.str [], .str [105, 51, 50], .str [105, 54, 52], .str [102, 51, 50], .str [102, 54, 52], .str [], .str [105, 56], .str [105, 49, 54]]) none) []
  | _, _ => none
theorem sp55_ok : SpOk Tryd.prog 55 sp55 := by
  intro args h K r hk
  unfold sp55 at hk
  split at hk
  · exact ⟨_, _, hk, by kernel_rfl, ac55 0 () rfl⟩
  · cases hk
end SD
