/- TypesCounts: for every input of bulk up to 2^20 it returns true, and its arguments read as they did. -/
import Derived.Test.YtijochhhibgcaaaDoorW1
import Derived.Test.YtijochhhibgcaaaDoorAwRead
import Derived.Test.YtijochhhibgcaaaDoorD5p
namespace Go.Proofs.YtijochhhibgcaaaDoor.TypesCounts
open Go Go.AW Go.ChangeShapes Go.WideShapes Go.ChangeAt Go.RowKit
set_option maxRecDepth 100000

def bulk (H : Type) : Bulk H where
  b := Rows.uptoBulk
  bs := Rows.uptoBulkAll
  one d := by
    cases d with
    | lit l => cases l <;> simp [Rows.uptoBulk]
    | _ => simp [Rows.uptoBulk]
  nil := by simp [Rows.uptoBulkAll]
  cons d r := by simp [Rows.uptoBulkAll]
  agg l := by simp [Rows.uptoBulk]
  slice l r := by simp [Rows.uptoBulk]
  str s := by simp [Rows.uptoBulk]

def tb : List (TypeId × TC) := [(47, .grp), (29, .sub), (54, .val), (82, .field), (3, .int .i64)]
theorem tb_ok : tbOk Tryd.prog tb = true := by kernel_rfl
theorem laidOut : laidOutB Tryd.prog = true := by kernel_rfl

theorem wt_pos (a : AV) : 1 ≤ a.wt := by cases a <;> simp [AV.wt]
theorem wts_len (l : List AV) : l.length ≤ AV.wts l := by
  induction l with
  | nil => simp
  | cons a l ih => have := wt_pos a; simp only [List.length_cons, AV.wts]; omega
theorem wtss_len (l : List (List AV)) (h : ∀ x ∈ l, 1 ≤ x.length) : l.length ≤ AV.wtss l := by
  induction l with
  | nil => simp
  | cons a l ih =>
    have h1 := wts_len a
    have h2 := h a (by simp)
    have h3 := ih fun x hx => h x (by simp [hx])
    simp only [List.length_cons, AV.wtss]; omega
theorem wtss_map {c : TC} (l : List (den c)) (hc : 1 ≤ csize c) : l.length ≤ AV.wtss (l.map (cellsOfC c)) := by
  have := wtss_len (l.map (cellsOfC c)) (by
    intro x hx
    obtain ⟨y, _, rfl⟩ := List.mem_map.1 hx
    rw [csize_ok]; exact hc)
  simpa using this
theorem wtss_mem {l : List (List AV)} {x : List AV} (h : x ∈ l) : AV.wts x ≤ AV.wtss l := by
  induction l with
  | nil => simp at h
  | cons a l ih =>
    simp only [AV.wtss]
    rcases List.mem_cons.1 h with rfl | h
    · omega
    · have := ih h; omega

theorem small_sub (s : SubT) (h : AV.wts (cellsOfC .sub s) ≤ 1048576) : SD.smallT s = true := by
  have e1 := wtss_map (c := .int .i64) s.supers (by decide)
  have e2 := wtss_map (c := .val) s.comp.params (by decide)
  have e3 := wtss_map (c := .val) s.comp.results (by decide)
  have e4 := wtss_map (c := .field) s.comp.fields (by decide)
  have : AV.wts (cellsOfC .sub s) = 1 + (AV.wtss (s.supers.map (cellsOfC (.int .i64))) + 1 + (1 + (AV.wtss (s.comp.params.map (cellsOfC .val)) + 1 + (AV.wtss (s.comp.results.map (cellsOfC .val)) + 1 + (AV.wtss (s.comp.fields.map (cellsOfC .field)) + 1))))) := rfl
  simp only [SD.smallT, SD.smallS, decide_eq_true_eq]
  omega

theorem cnt_le (l : List RecT) : SD.cnt l ≤ AV.wtss (l.map (cellsOfC .grp)) := by
  induction l with
  | nil => simp [SD.cnt, AV.wtss]
  | cons g r ih =>
    have e := wtss_map (c := .sub) g.types (by decide)
    have : AV.wts (cellsOfC .grp g) = (AV.wtss (g.types.map (cellsOfC .sub)) + 1) + (1 + 0) := rfl
    simp only [SD.cnt, List.map_cons, AV.wtss]
    omega

theorem ok_groups (l : List RecT) (h : AV.wt (.slice (l.map (cellsOfC .grp))) ≤ 1048576) : SD.okL l = true := by
  simp only [AV.wt] at h
  have h1 := wtss_map (c := .grp) l (by decide)
  have h2 := cnt_le l
  have h3 : SD.smallG l = true := by
    simp only [SD.smallG, List.all_eq_true]
    intro g hg s hs
    have k1 := wtss_mem (List.mem_map_of_mem (f := cellsOfC .grp) hg)
    have k2 := wtss_mem (List.mem_map_of_mem (f := cellsOfC .sub) hs)
    have : AV.wts (cellsOfC .grp g) = (AV.wtss (g.types.map (cellsOfC .sub)) + 1) + (1 + 0) := rfl
    exact small_sub s (by omega)
  simp only [SD.okL, Bool.and_eq_true, decide_eq_true_eq]
  exact ⟨by omega, by omega, h3⟩

theorem types_ok : ∀ t ∈ Tryd.f3.params.toList, Tryd.prog.readableRec t = true ∧ t < Tryd.prog.types.size := by
  rw [Tryd.params3]
  intro t ht
  have : t = 22 ∨ t = 3 := by simpa using ht
  rcases this with rfl | rfl
  · exact ⟨by kernel_rfl, of_decide_eq_true (by kernel_rfl)⟩
  · exact ⟨by kernel_rfl, of_decide_eq_true (by kernel_rfl)⟩

theorem contract (H : Type) (enc : TypeId × Value → H) (W : World) (base : Nat) (args : Array Value) (ds gs : List (DataW H)) (before : List MemPlace)
    (hval : ∀ (j : Nat) t v, Tryd.f3.params[j]? = some t → args[j]? = some v → Value.okWide Tryd.prog W .any base t v)
    (hW : DataW.Whole enc Tryd.prog Tryd.f3.params.toList Rows.typesCountsSpec.vars false W args.toList ds gs before) (hk : Rows.uptoSmall H (ds ++ gs) = true) :
    Calls Tryd.prog 3 args W fun e W' => ∃ v, e = .returned v ∧ Rows.typesCountsSpec.post enc Tryd.prog Tryd.f3 false true false false W args v W' := by
  have hW' := hW
  obtain ⟨p, q, hA, hV, rfl, hfz, hnd⟩ := hW
  rw [Tryd.params3] at hA hval
  obtain ⟨v0, vs0, d0, ds0, p0, q0, hargs, rfl, rfl, h0, r0⟩ := trodAll_cons hA
  obtain ⟨v1, vs1, d1, ds1, p1, q1, rfl, rfl, rfl, h1, r1⟩ := trodAll_cons r0
  obtain ⟨rfl, rfl, rfl⟩ := trodAll_nil r1
  obtain rfl : args = #[v0, v1] := by cases args; simp_all
  obtain ⟨rfl, rfl⟩ := trodVars_none hV
  obtain ⟨_, ⟨l, rfl⟩, g1, g2, g3⟩ := arg_one (bulk H) tb_ok (l := .sl .grp) (t := 22) (by kernel_rfl) (hval 0 22 v0 rfl rfl) h0
  obtain ⟨_, ⟨n, rfl⟩, k1, k2, k3⟩ := arg_one (bulk H) tb_ok (l := .int .i64) (t := 3) (by kernel_rfl) (hval 1 3 v1 rfl rfl) h1
  have hb : Rows.uptoBulk d0 ≤ 1048576 := by
    simp only [Rows.uptoSmall, List.append_nil, Rows.uptoBulkAll, decide_eq_true_eq] at hk
    omega
  have hl : SD.okL l = true := ok_groups l (Nat.le_trans g2 hb)
  exact law_post (tb := 4) (xs := TV.avs [.slice .grp l, .int .i64 n]) laidOut types_ok Tryd.underlying4 (by kernel_rfl) rfl rfl hW'
    (SD.counts_true l n hl (wf64 k3).2) (vrs_cons g1 (vrs_one k1))

theorem liftedUpto (os : Os) (started : os.Started) (H : Type) (enc : TypeId × Value → H) (F : Stop.Interp) :
    ReturnsInHanded {} Tryd.checked os 3 .any ((Rows.OpenSpec.upto Rows.typesCountsSpec).preRow enc Tryd.prog Tryd.f3 Rows.typesCountsUptoRow.domain false Rows.typesCountsUptoRow.laid) (((Rows.OpenSpec.upto Rows.typesCountsSpec).at F).post enc Tryd.prog Tryd.f3 false true false false) := by
  refine returnsInHanded_of_row (C := Tryd.checked) (s := Rows.OpenSpec.upto Rows.typesCountsSpec) Wit.own started (by kernel_rfl) Tryd.func3 (Wit.wit os H enc) ?_
  intro W base args ds gs before hval hW _ hcond _ _ _ _
  exact contract H enc W base args ds gs before hval hW (hcond _ rfl)

theorem saidUpto : Rows.TypesCountsUptoSaid :=
  OpenClaim.holds_of_cond 3 Tryd.f3 rfl rfl rfl rfl rfl rfl rfl ⟨rfl, rfl, rfl, rfl, rfl⟩ rfl rfl rfl rfl rfl (by kernel_rfl) Tryd.func3 (by kernel_rfl)
    (of_decide_eq_true (by kernel_rfl)) (by unfold Func.isWrapper; first | (rw [if_pos (by decide +kernel)]; kernel_rfl) | (rw [if_neg (by decide +kernel)]; exact ⟨rfl, rfl⟩))
    (fun os started H enc _ F => by rw [OpenClaim.pre_eq_preRow]; exact liftedUpto os started H enc F)

theorem plain (f : FuncId) (fn : Func) (hf : Tryd.pinned.checked.prog.funcNamed "ratchet/ratchetlaw05.TypesCounts" = some f) (hfn : Tryd.pinned.checked.prog.funcs[f]? = some fn) :
    true = Tryd.pinned.checked.prog.looks [] ∧ ∀ (j : Nat) t, fn.params[j]? = some t → Tryd.pinned.checked.prog.wantsStandIn t = false := by
  obtain rfl : f = 3 := Option.some.inj ((show Tryd.prog.funcNamed "ratchet/ratchetlaw05.TypesCounts" = some 3 by kernel_rfl).symm.trans hf) |>.symm
  obtain rfl : fn = Tryd.f3 := (Option.some.inj (Tryd.func3.symm.trans hfn)).symm
  refine ⟨by kernel_rfl, fun j t ht => ?_⟩
  rw [Tryd.params3] at ht
  have : t = 22 ∨ t = 3 := by simpa using Array.mem_of_getElem? ht
  rcases this with rfl | rfl
  · exact (show Tryd.prog.wantsStandIn 22 = false by kernel_rfl)
  · exact (show Tryd.prog.wantsStandIn 3 = false by kernel_rfl)

theorem cardUpto : Rows.TypesCountsUptoCardSaid :=
  Claim7.holds_tied_plain_at .later [] _ _ _ _ saidUpto (fun _ h => by cases h) (by kernel_rfl) (fun _ h => by cases h) typesCountsUpto_row_tie rfl ⟨rfl, rfl⟩ (by kernel_rfl) rfl plain (by kernel_rfl)
#print axioms cardUpto
end Go.Proofs.YtijochhhibgcaaaDoor.TypesCounts
