/- What the arguments of a law read as, and what a walk that answers true says of a row. -/
import Derived.Test.YtijochhhibgcaaaDoorAwData
import Derived.ChangeArms
import Derived.Deep.Slices
import Derived.RowKit3
import Derived.WideKeyArgs
import Derived.OpenShut
import Derived.Deep.Frames
import Derived.ChangeBears
import Derived.ChangeOld
import Derived.RowKit
section
namespace Go.AW
open Go

mutual
def AV.wt : AV → Nat
  | .slice es => AV.wtss es + 1
  | .str s => s.length + 1
  | _ => 1
def AV.wts : List AV → Nat
  | [] => 0
  | a :: r => a.wt + AV.wts r
def AV.wtss : List (List AV) → Nat
  | [] => 0
  | l :: r => AV.wts l + AV.wtss r
end
theorem wts_append (l r : List AV) : AV.wts (l ++ r) = AV.wts l + AV.wts r := by
  induction l with
  | nil => simp [AV.wts]
  | cons a l ih => simp only [List.cons_append, AV.wts, ih]; omega

mutual
def AV.okr : AV → Bool
  | .slice es => AV.okrss es
  | .int k n => (Lit.int k n).wf
  | _ => true
def AV.okrs : List AV → Bool
  | [] => true
  | a :: r => a.okr && AV.okrs r
def AV.okrss : List (List AV) → Bool
  | [] => true
  | l :: r => AV.okrs l && AV.okrss r
end
theorem okrs_append (l r : List AV) : AV.okrs (l ++ r) = (AV.okrs l && AV.okrs r) := by
  induction l with
  | nil => simp [AV.okrs]
  | cons a l ih => simp only [List.cons_append, AV.okrs, ih, Bool.and_assoc]
theorem okrss_eq (l : List (List AV)) : AV.okrss l = l.all AV.okrs := by
  induction l with
  | nil => rfl
  | cons a l ih => simp only [AV.okrss, List.all_cons, ih]

/-- What a cell of a code is. -/
inductive Leaf where
  | int (k : IntKind) | bool | str | sl (c : TC)
  deriving DecidableEq
def Leaf.has : Leaf → AV → Prop
  | .int k, a => ∃ n, a = .int k n
  | .bool, a => ∃ b, a = .bool b
  | .str, a => ∃ s, a = .str s
  | .sl c, a => ∃ l : List (den c), a = .slice (l.map (cellsOfC c))
def Confs : List Leaf → List AV → Prop
  | [], [] => True
  | l :: ls, a :: as => l.has a ∧ Confs ls as
  | _, _ => False
def leaves : TC → Option (List Leaf)
  | .int k => some [.int k]
  | .bool => some [.bool]
  | .str => some [.str]
  | .val => some [.int .i64, .bool, .int .i64]
  | .field => some [.int .i64, .bool, .int .i64, .bool]
  | .comp => some [.int .i64, .sl .val, .sl .val, .sl .field]
  | .sub => some [.bool, .sl (.int .i64), .int .i64, .sl .val, .sl .val, .sl .field]
  | .grp => some [.sl .sub, .bool]
  | _ => none

theorem confs_nil {as : List AV} (h : Confs [] as) : as = [] := by cases as <;> simp_all [Confs]
theorem confs_cons {l : Leaf} {ls : List Leaf} {as : List AV} (h : Confs (l :: ls) as) : ∃ a r, as = a :: r ∧ l.has a ∧ Confs ls r := by
  cases as with
  | nil => simp [Confs] at h
  | cons a r => exact ⟨a, r, rfl, h.1, h.2⟩
theorem confs_len : ∀ {ls : List Leaf} {as : List AV}, Confs ls as → as.length = ls.length
  | [], as, h => by rw [confs_nil h]; rfl
  | l :: ls, as, h => by
    obtain ⟨a, r, rfl, _, h2⟩ := confs_cons h
    simp [confs_len h2]
theorem confs_append : ∀ {ls ls' : List Leaf} {as as' : List AV}, Confs ls as → Confs ls' as' → Confs (ls ++ ls') (as ++ as')
  | [], _, as, _, h, h' => by rw [confs_nil h]; simpa using h'
  | l :: ls, _, as, _, h, h' => by
    obtain ⟨a, r, rfl, h1, h2⟩ := confs_cons h
    exact ⟨h1, confs_append h2 h'⟩

theorem conf_code {c : TC} {ls : List Leaf} (hl : leaves c = some ls) {as : List AV} (h : Confs ls as) : ∃ x : den c, as = cellsOfC c x := by
  cases c <;> simp only [leaves, Option.some.injEq, reduceCtorEq] at hl <;> subst hl
  · obtain ⟨_, _, rfl, ⟨n, rfl⟩, h1⟩ := confs_cons h
    rw [confs_nil h1]
    exact ⟨n, rfl⟩
  · obtain ⟨_, _, rfl, ⟨n, rfl⟩, h1⟩ := confs_cons h
    rw [confs_nil h1]
    exact ⟨n, rfl⟩
  · obtain ⟨_, _, rfl, ⟨n, rfl⟩, h1⟩ := confs_cons h
    rw [confs_nil h1]
    exact ⟨n, rfl⟩
  · obtain ⟨_, _, rfl, ⟨a, rfl⟩, h1⟩ := confs_cons h
    obtain ⟨_, _, rfl, ⟨b, rfl⟩, h2⟩ := confs_cons h1
    obtain ⟨_, _, rfl, ⟨c, rfl⟩, h3⟩ := confs_cons h2
    rw [confs_nil h3]
    exact ⟨⟨a, b, c⟩, rfl⟩
  · obtain ⟨_, _, rfl, ⟨a, rfl⟩, h1⟩ := confs_cons h
    obtain ⟨_, _, rfl, ⟨b, rfl⟩, h2⟩ := confs_cons h1
    obtain ⟨_, _, rfl, ⟨c, rfl⟩, h3⟩ := confs_cons h2
    obtain ⟨_, _, rfl, ⟨d, rfl⟩, h4⟩ := confs_cons h3
    rw [confs_nil h4]
    exact ⟨⟨⟨a, b, c⟩, d⟩, rfl⟩
  · obtain ⟨_, _, rfl, ⟨a, rfl⟩, h1⟩ := confs_cons h
    obtain ⟨_, _, rfl, ⟨b, rfl⟩, h2⟩ := confs_cons h1
    obtain ⟨_, _, rfl, ⟨c, rfl⟩, h3⟩ := confs_cons h2
    obtain ⟨_, _, rfl, ⟨d, rfl⟩, h4⟩ := confs_cons h3
    rw [confs_nil h4]
    exact ⟨⟨a, b, c, d⟩, rfl⟩
  · obtain ⟨_, _, rfl, ⟨a, rfl⟩, h1⟩ := confs_cons h
    obtain ⟨_, _, rfl, ⟨b, rfl⟩, h2⟩ := confs_cons h1
    obtain ⟨_, _, rfl, ⟨c, rfl⟩, h3⟩ := confs_cons h2
    obtain ⟨_, _, rfl, ⟨d, rfl⟩, h4⟩ := confs_cons h3
    obtain ⟨_, _, rfl, ⟨e, rfl⟩, h5⟩ := confs_cons h4
    obtain ⟨_, _, rfl, ⟨f, rfl⟩, h6⟩ := confs_cons h5
    rw [confs_nil h6]
    exact ⟨⟨a, b, ⟨c, d, e, f⟩⟩, rfl⟩
  · obtain ⟨_, _, rfl, ⟨a, rfl⟩, h1⟩ := confs_cons h
    obtain ⟨_, _, rfl, ⟨b, rfl⟩, h2⟩ := confs_cons h1
    rw [confs_nil h2]
    exact ⟨⟨a, b⟩, rfl⟩

/-! The program's types, as leaves. -/
def leafOk (P : Program) (tb : List (TypeId × TC)) (t : TypeId) : Leaf → Bool
  | .int k => match P.underlying t with | some (.int k') => decide (k' = k) | _ => false
  | .bool => match P.underlying t with | some .bool => true | _ => false
  | .str => match P.underlying t with | some .string => true | _ => false
  | .sl c => match P.underlying t with | some (.slice e) => tb.contains (e, c) | _ => false
def fieldsOk (P : Program) (rec : TypeId → List Leaf → Bool) : List Field → Nat → List Leaf → Bool
  | [], _, ls => ls.isEmpty
  | f :: r, off, ls => f.offset == off && (rec f.type (ls.take (P.cellsOf f.type)) && (decide (P.cellsOf f.type ≤ ls.length) && fieldsOk P rec r (off + P.cellsOf f.type) (ls.drop (P.cellsOf f.type))))
def tyOk (P : Program) (tb : List (TypeId × TC)) : Nat → TypeId → List Leaf → Bool
  | 0, _, _ => false
  | n + 1, t, ls => match P.underlying t with
    | some (.struct fs) => decide (P.cellsOf t = ls.length) && fieldsOk P (tyOk P tb n) fs.toList 0 ls
    | _ => match ls with | [l] => leafOk P tb t l | _ => false
def tbOk (P : Program) (tb : List (TypeId × TC)) : Bool :=
  tb.all fun x => match leaves x.2 with | some ls => decide (P.cellsOf x.1 = ls.length) && (decide (0 < ls.length) && tyOk P tb 8 x.1 ls) | none => false

structure Bulk (H : Type) where
  b : DataW H → Nat
  bs : List (DataW H) → Nat
  one : ∀ d, 1 ≤ b d
  nil : bs [] = 0
  cons : ∀ d r, bs (d :: r) = b d + bs r
  agg : ∀ l, b (.agg l) = bs l + 1
  slice : ∀ l r, b (.slice l r) = bs l + bs r + 1
  str : ∀ s, b (.lit (.string s)) = s.length + 1

theorem Bulk.append {H : Type} (B : Bulk H) (l r : List (DataW H)) : B.bs (l ++ r) = B.bs l + B.bs r := by
  induction l with
  | nil => simp [B.nil]
  | cons d l ih => simp only [List.cons_append, B.cons, ih]; omega
end Go.AW
end

section
namespace Go.AW
open Go
section
variable {H : Type} {enc : TypeId × Value → H} {P : Program} {W : World} {base : Nat}

/-- Whatever lies in the old memory counts as still. -/
def oldS (W : World) (b _o : Nat) : Prop := b < W.heap.size

theorem at_lt {W : World} {b o : Nat} (h : (W.at_ b o).isSome) : b < W.heap.size := by
  unfold World.at_ World.cell? at h
  cases hb : W.heap[b]? with
  | none => simp [hb] at h
  | some x => exact (Array.getElem?_eq_some_iff.1 hb).1

theorem vrs_nil {κ : List Nat} {S : Nat → Nat → Prop} {w : World} : VRs κ S w [] [] := ⟨rfl, fun j x v h => by simp at h⟩
theorem vrs_one {κ : List Nat} {S : Nat → Nat → Prop} {w : World} {a : AV} {v : Value} (h : VR κ S w a v) : VRs κ S w [a] [v] := by
  refine ⟨rfl, fun j x u hx hu => ?_⟩
  cases j with
  | zero => simp at hx hu; subst hx hu; exact h
  | succ j => simp at hx
theorem vrs_append {κ : List Nat} {S : Nat → Nat → Prop} {w : World} {xs ys : List AV} {vs us : List Value} (h : VRs κ S w xs vs) (h' : VRs κ S w ys us) : VRs κ S w (xs ++ ys) (vs ++ us) := by
  refine ⟨by simp [h.1, h'.1], fun j x v hx hv => ?_⟩
  by_cases hj : j < xs.length
  · rw [List.getElem?_append_left hj] at hx
    rw [List.getElem?_append_left (by rw [h.1]; exact hj)] at hv
    exact h.2 j x v hx hv
  · rw [List.getElem?_append_right (by omega)] at hx
    rw [List.getElem?_append_right (by rw [h.1]; omega), h.1] at hv
    exact h'.2 _ x v hx hv

theorem conf_one_all : ∀ {ls : List Leaf} {as : List AV}, Confs ls as → ∀ a ∈ as, a.one = true
  | [], as, h => by rw [confs_nil h]; simp
  | l :: ls, as, h => by
    obtain ⟨a, r, rfl, h1, h2⟩ := confs_cons h
    intro x hx
    rcases List.mem_cons.1 hx with rfl | hx
    · cases l <;> obtain ⟨_, rfl⟩ := h1 <;> rfl
    · exact conf_one_all h2 x hx

theorem sum_map_le {α : Type} (f g : α → Nat) : ∀ (l : List α), (∀ x ∈ l, f x ≤ g x) → (l.map f).sum ≤ (l.map g).sum
  | [], _ => by simp
  | x :: r, h => by
    have h1 := h x (by simp)
    have h2 := sum_map_le f g r fun y hy => h y (by simp [hy])
    simp only [List.map_cons, List.sum_cons]
    omega
theorem wtss_eq (l : List (List AV)) : AV.wtss l = (l.map AV.wts).sum := by
  induction l with
  | nil => rfl
  | cons a l ih => simp only [AV.wtss, List.map_cons, List.sum_cons, ih]
theorem Bulk.bs_eq (B : Bulk H) (l : List (DataW H)) : B.bs l = (l.map B.b).sum := by
  induction l with
  | nil => simp [B.nil]
  | cons d l ih => simp only [B.cons, List.map_cons, List.sum_cons, ih]

/-- What a reading shows. -/
def Shows (B : Bulk H) (W : World) (ls : List Leaf) (cs : List Value) (d : DataW H) : Prop :=
  ∃ as, Confs ls as ∧ VRs [] (oldS W) W as cs ∧ AV.wts as ≤ B.b d ∧ AV.okrs as = true

theorem add_comp (a : Addr) (i j : Nat) : (a.add i).add j = a.add (i + j) := Go.Deep.add_add a i j

theorem read_slice (B : Bulk H) {tb : List (TypeId × TC)} (htb : tbOk P tb = true) {t e : TypeId} {c : TC} (ht : P.underlying t = some (.slice e)) (he : (e, c) ∈ tb) {fuel : Nat} {cs : List Value} {x : DataW H × List MemPlace}
    (h : DataW.trod enc P W base (fun _ => true) true fuel t cs = some x)
    (ih : ∀ n, n < fuel → ∀ (t : TypeId) (ls : List Leaf) (cs : List Value) (x : DataW H × List MemPlace) (m : Nat), tyOk P tb m t ls = true → DataW.trod enc P W base (fun _ => true) true n t cs = some x → Shows B W ls cs x.1) :
    Shows B W [.sl c] cs x.1 := by
  simp only [tbOk, List.all_eq_true] at htb
  have hc := htb _ he
  cases hls : leaves c with
  | none => simp [hls] at hc
  | some ls =>
    simp only [hls, Bool.and_eq_true, decide_eq_true_eq] at hc
    obtain ⟨hc1, hc2, hc3⟩ := hc
    rcases DataW.trod_slice ht h with ⟨rfl, rfl⟩ | ⟨a, len, cap, elems, rest, n, rfl, rfl, rfl, _, hlc, _, hlen, hel, _, _⟩
    · exact ⟨[.slice []], ⟨⟨[], rfl⟩, trivial⟩, vrs_one .slice0, by simp [AV.wts, AV.wt, AV.wtss]; exact B.one _, rfl⟩
    · have one : ∀ i, i < len → ∃ (y : den c) (cs' : List Value) (z : DataW H × List MemPlace), W.cells? base (a.add (i * P.cellsOf e)) (P.cellsOf e) = some cs' ∧ elems[i]? = some z ∧
          VRs [] (oldS W) W (cellsOfC c y) cs' ∧ AV.wts (cellsOfC c y) ≤ B.b z.1 ∧ AV.okrs (cellsOfC c y) = true := by
        intro i hi
        have hz : elems[i]? = some (elems[i]'(by omega)) := List.getElem?_eq_getElem (by omega)
        have := hel i hi
        rw [hz] at this
        obtain ⟨cs', g1, g2⟩ := Option.bind_eq_some_iff.1 this
        obtain ⟨as, k1, k2, k3, k4⟩ := ih n (by omega) e ls cs' _ 8 hc3 g2
        obtain ⟨y, rfl⟩ := conf_code hls k1
        exact ⟨y, cs', _, g1, hz, k2, k3, k4⟩
      haveI : Inhabited (den c) := by
        cases c <;> exact ⟨default⟩
      obtain ⟨Y, hY⟩ := Go.Deep.choose_lt (α := den c) one
      have hcl : ∀ y : den c, (cellsOfC c y).length = P.cellsOf e := fun y => by
        rw [csize_ok, hc1]
        cases c <;> simp only [leaves, Option.some.injEq, reduceCtorEq] at hls <;> subst hls <;> rfl
      have hpos : 0 < P.cellsOf e := by omega
      have hwt : AV.wts [AV.slice (((List.range len).map Y).map (cellsOfC c))] ≤ B.b (.slice (elems.map (·.1)) (rest.map (·.1))) := by
        simp only [AV.wts, AV.wt, B.slice, wtss_eq, B.bs_eq, List.map_map]
        have e1 : (List.map (B.b ∘ fun x => x.1) elems) = (List.range len).map fun i => B.b (elems.getD i (.nil, [])).1 := by
          rw [Go.Deep.map_by_index elems (.nil, []), hlen]
          rfl
        have : ((List.range len).map (AV.wts ∘ cellsOfC c ∘ Y)).sum ≤ (List.map (B.b ∘ fun x => x.1) elems).sum := by
          rw [e1]
          refine sum_map_le _ _ _ fun i hi => ?_
          obtain ⟨cs', z, _, g2, _, g4, _⟩ := hY i (by simpa using hi)
          simp only [List.getD, g2, Option.getD_some]
          exact g4
        omega
      have hok : AV.okrs [AV.slice (((List.range len).map Y).map (cellsOfC c))] = true := by
        simp only [AV.okrs, AV.okr, okrss_eq, Bool.and_true, List.all_eq_true, List.mem_map]
        rintro q ⟨y, ⟨i, hi, rfl⟩, rfl⟩
        obtain ⟨_, _, _, _, _, _, g5⟩ := hY i (by simpa using hi)
        exact g5
      refine ⟨[.slice (((List.range len).map Y).map (cellsOfC c))], ⟨⟨_, rfl⟩, trivial⟩, vrs_one ?_, hwt, hok⟩
      by_cases h0 : len = 0
      · subst h0; exact .slice0
      · -- the first cell lies there: the address has no spot
        have hspot : a.spot = none := by
          obtain ⟨cs', z, g1, _⟩ := hY 0 (by omega)
          obtain ⟨_, q1, q2⟩ := World.cells?_some g1
          have q3 := q2 0 (by omega)
          rw [List.getElem?_eq_getElem (by omega)] at q3
          simp only [Nat.zero_mul, Addr.add, if_true, World.cell?] at q3
          split at q3
          · split at q3
            · cases q3
            · rename_i hs; cases hsp : a.spot with
              | none => rfl
              | some _ => simp [hsp] at hs
          · cases q3
        obtain ⟨b, off, spot⟩ := a
        simp only at hspot
        subst hspot
        have hcell : ∀ j, W.cell? ((⟨b, off, none⟩ : Addr).add j) = W.at_ b (off + j) := fun j => by
          unfold Addr.add World.at_
          split
          · rename_i h0; subst h0; rfl
          · rfl
        have hz : ∀ q ∈ ((List.range len).map Y).map (cellsOfC c), q.length = P.cellsOf e := by
          intro q hq
          obtain ⟨y, _, rfl⟩ := List.mem_map.1 hq
          exact hcl y
        have spot : ∀ (j : Nat) (v : AV), (((List.range len).map Y).map (cellsOfC c)).flatten[j]? = some v → ∃ u, W.at_ b (off + j) = some u ∧ VR [] (oldS W) W v u := by
          intro j v hv
          have hj := (List.getElem?_eq_some_iff.1 hv).1
          rw [flatten_len hz] at hj
          simp only [List.length_map, List.length_range] at hj
          have hi : j / P.cellsOf e < len := Nat.div_lt_of_lt_mul (by rw [Nat.mul_comm]; exact hj)
          have hk : j % P.cellsOf e < P.cellsOf e := Nat.mod_lt _ hpos
          obtain ⟨cs', z, g1, _, g3, _⟩ := hY _ hi
          obtain ⟨_, q1, q2⟩ := World.cells?_some g1
          have q3 := q2 _ hk
          rw [add_comp, Nat.mul_comm, Nat.div_add_mod, hcell] at q3
          have hx : (cellsOfC c (Y (j / P.cellsOf e)))[j % P.cellsOf e]? = some v := by
            have hk' : j % P.cellsOf e < (cellsOfC c (Y (j / P.cellsOf e))).length := by rw [hcl]; exact hk
            have := flatten_at (i := j / P.cellsOf e) (j := j % P.cellsOf e) hz (e := cellsOfC c (Y (j / P.cellsOf e))) (by simp [hi]) (List.getElem?_eq_getElem hk')
            rw [Nat.mul_comm, Nat.div_add_mod] at this
            rw [List.getElem?_eq_getElem hk', ← this, hv]
          rw [List.getElem?_eq_getElem (by omega)] at q3
          exact ⟨_, q3, g3.2 _ _ _ hx (List.getElem?_eq_getElem (by omega))⟩
        refine .slice (sz := P.cellsOf e) (by simp) hlc hz (fun j v hv => ?_) (fun j v u hv hu => ?_)
        · obtain ⟨u, hu, _⟩ := spot j v hv
          refine ⟨at_lt (o := off + j) (by rw [hu]; rfl), ?_, by rw [hu]; rfl⟩
          obtain ⟨l, hl, hm⟩ := List.mem_flatten.1 (List.mem_of_getElem? hv)
          obtain ⟨y, _, rfl⟩ := List.mem_map.1 hl
          exact cells_one c y v hm
        · obtain ⟨u', hu', hvr⟩ := spot j v hv
          rw [hu] at hu'
          rw [Option.some.inj hu']
          exact hvr

theorem read_fields (B : Bulk H) {tb : List (TypeId × TC)} {n m : Nat}
    (ih : ∀ (t : TypeId) (ls : List Leaf) (cs : List Value) (x : DataW H × List MemPlace), tyOk P tb m t ls = true → DataW.trod enc P W base (fun _ => true) true n t cs = some x → Shows B W ls cs x.1)
    (cs : List Value) : ∀ (fs : List Field) (off : Nat) (ls : List Leaf) (xs : List (DataW H × List MemPlace)), fieldsOk P (tyOk P tb m) fs off ls = true → xs.length = fs.length → cs.length = off + ls.length →
      (∀ (i : Nat) (f : Field), fs[i]? = some f → DataW.trod enc P W base (fun _ => true) true n f.type ((cs.drop f.offset).take (P.cellsOf f.type)) = xs[i]?) →
      ∃ as, Confs ls as ∧ VRs [] (oldS W) W as (cs.drop off) ∧ AV.wts as ≤ B.bs (xs.map (·.1)) ∧ AV.okrs as = true := by
  intro fs
  induction fs with
  | nil =>
    intro off ls xs hf hx hl _
    simp only [fieldsOk, List.isEmpty_iff] at hf
    subst hf
    have : cs.drop off = [] := by simp at hl; simp [hl]
    rw [this]
    exact ⟨[], trivial, vrs_nil, by simp [AV.wts], rfl⟩
  | cons f r ihf =>
    intro off ls xs hf hx hl hr
    simp only [fieldsOk, Bool.and_eq_true, beq_iff_eq, decide_eq_true_eq] at hf
    obtain ⟨rfl, h2, h3, h4⟩ := hf
    cases xs with
    | nil => simp at hx
    | cons x xs =>
      have e0 := hr 0 f rfl
      simp only [List.getElem?_cons_zero] at e0
      obtain ⟨as, a1, a2, a3, a4⟩ := ih _ _ _ _ h2 e0
      obtain ⟨bs, b1, b2, b3, b4⟩ := ihf (f.offset + P.cellsOf f.type) (ls.drop (P.cellsOf f.type)) xs h4 (by simpa using hx) (by simp; omega) (fun i g hg => by
        have := hr (i + 1) g (by simpa using hg)
        simpa using this)
      refine ⟨as ++ bs, ?_, ?_, ?_, by rw [okrs_append, a4, b4]; rfl⟩
      · have := confs_append a1 b1
        rwa [List.take_append_drop] at this
      · have := vrs_append a2 b2
        rw [← List.drop_drop, List.take_append_drop] at this
        exact this
      · rw [wts_append, List.map_cons, B.cons]; omega

theorem read_all (B : Bulk H) {tb : List (TypeId × TC)} (htb : tbOk P tb = true) : ∀ (n : Nat) (t : TypeId) (ls : List Leaf) (cs : List Value) (x : DataW H × List MemPlace) (m : Nat), tyOk P tb m t ls = true →
    DataW.trod enc P W base (fun _ => true) true n t cs = some x → Shows B W ls cs x.1 := by
  intro n
  induction n using Nat.strongRecOn with
  | _ n ih =>
    intro t ls cs x m hm h
    cases m with
    | zero => simp [tyOk] at hm
    | succ m =>
      unfold tyOk at hm
      split at hm
      · rename_i fs ht
        simp only [Bool.and_eq_true, decide_eq_true_eq] at hm
        obtain ⟨xs, k, rfl, rfl, h1, h2, h3⟩ := DataW.trod_struct ht h
        obtain ⟨as, a1, a2, a3, a4⟩ := read_fields B (fun t ls cs x h1 h2 => ih k (by omega) t ls cs x m h1 h2) cs fs.toList 0 ls xs hm.2 (by simpa using h2) (by omega) (fun i f hf => h3 i f (by simpa using hf))
        refine ⟨as, a1, by simpa using a2, ?_, a4⟩
        show _ ≤ B.b (.agg _)
        rw [B.agg]
        omega
      · split at hm
        · rename_i l
          unfold leafOk at hm
          split at hm
          · split at hm
            · rename_i ht
              simp only [decide_eq_true_eq] at hm
              subst hm
              obtain ⟨k, rfl, rfl, hw⟩ := DataW.trod_int ht h
              exact ⟨[.int _ k], ⟨⟨k, rfl⟩, trivial⟩, vrs_one (.int _ _), B.one _, by simp [AV.okrs, AV.okr, hw]⟩
            · cases hm
          · split at hm
            · rename_i ht
              obtain ⟨k, rfl, rfl⟩ := DataW.trod_bool ht h
              exact ⟨[.bool k], ⟨⟨k, rfl⟩, trivial⟩, vrs_one (.bool _), B.one _, rfl⟩
            · cases hm
          · split at hm
            · rename_i ht
              obtain ⟨s, rfl, rfl, _⟩ := DataW.trod_string ht h
              refine ⟨[.str s.data.toList], ⟨⟨_, rfl⟩, trivial⟩, vrs_one ?_, ?_, rfl⟩
              · have := VR.str (κ := []) (S := oldS W) (w := W) s.data.toList
                simpa using this
              · show _ ≤ B.b (.lit (.string _))
                rw [B.str]
                simp [AV.wts, AV.wt]
            · cases hm
          · split at hm
            · rename_i ht
              exact read_slice B htb ht (by simpa using hm) h ih
            · cases hm
        · cases hm

theorem Trod_shows (B : Bulk H) {tb : List (TypeId × TC)} (htb : tbOk P tb = true) {t : TypeId} {ls : List Leaf} (hm : tyOk P tb 8 t ls = true) {v : Value} {d : DataW H} {ps : List MemPlace} (h : DataW.Trod enc P W base (fun _ => true) true t v d ps) :
    Shows B W ls v.cells.toList d := by
  obtain ⟨n, hn⟩ := h
  exact read_all B htb n t ls _ _ 8 hm hn
/-- A value of one cell is that cell. -/
theorem cells_one_of {v : Value} {a : Value} (h : v.cells.toList = [a]) (hv : ∀ cs, v ≠ .agg cs) : v = a := by
  cases v <;> simp_all [Value.cells]
end
end Go.AW
end

section
namespace Go.AW
open Go Go.RowKit Go.ChangeShapes Go.WideElems

theorem inv_start (P : Program) (W : World) : Inv P [] (oldS W) (fun _ _ => False) W (hA []) (fun _ => none) := by
  refine ⟨rfl, List.nodup_nil, fun k b cs hk => by simp at hk, fun b o h => ⟨h, by simp⟩, fun b o h => h.elim, fun b o o' h => h.elim, fun c v e h => by simp at h, fun c c' v v' e e' _ h => by simp at h⟩

theorem Ext.grown {κ' : List Nat} {F S' : Nat → Nat → Prop} {W W' : World} (h : Ext F [] (oldS W) W κ' S' W') : Grown W W' := by
  refine ⟨⟨h.still.os, h.still.output, fun i hi => ?_⟩, fun a => ?_, h.size⟩
  · cases hx : W.heap[i]? with
    | none => rw [Array.getElem?_eq_none_iff] at hx; omega
    | some o =>
      by_cases hcell : ∃ c t fr, o = .cells c t fr
      · obtain ⟨c, t, fr, rfl⟩ := hcell
        obtain ⟨arr', g1, g2⟩ := h.grow i c t fr hx
        rw [g1]
        refine ⟨rfl, rfl, g2, fun j _ => ?_⟩
        have := h.keep i j hi
        simpa [World.at_, World.cell?, hx, g1] using this
      · have := h.still.other i hi (fun c t fr e => hcell ⟨c, t, fr, by rw [hx] at e; exact Option.some.inj e⟩)
        rw [this, hx]
        cases o with
        | cells c t fr => exact absurd ⟨c, t, fr, rfl⟩ hcell
        | map es clock => exact Or.inr ⟨rfl, rfl⟩
        | _ => rfl
  · unfold World.frozen?
    cases hx : W.heap[a.block]? with
    | none =>
      rw [Array.getElem?_eq_none_iff] at hx
      cases hy : W'.heap[a.block]? with
      | none => rfl
      | some o =>
        cases o with
        | cells c t fr =>
          have := h.still.fresh _ c t fr hx hy
          subst this
          simp
        | _ => rfl
    | some o =>
      have hi := (Array.getElem?_eq_some_iff.1 hx).1
      by_cases hcell : ∃ c t fr, o = .cells c t fr
      · obtain ⟨c, t, fr, rfl⟩ := hcell
        obtain ⟨arr', g1, g2⟩ := h.grow _ c t fr hx
        rw [g1]
      · have := h.still.other _ hi (fun c t fr e => hcell ⟨c, t, fr, by rw [hx] at e; exact Option.some.inj e⟩)
        rw [this, hx]

/-- A walk over old memory that answers a bool. -/
theorem ACalls.law {P : Program} {f : FuncId} {args : List AV} {b : Bool} {R : AHeap → Prop} (hc : ACalls P f args (hA []) fun ae ah => ae = TEnd.av (.ret (.bool b) none) ∧ R ah) {W : World} {vs : List Value} (hv : VRs [] (oldS W) W args vs) :
    Calls P f vs.toArray W fun e W' => e = .returned (.bool b) ∧ Grown W W' := by
  refine (hc [] (oldS W) (fun _ _ => False) W _ vs (inv_start P W) hv).mono fun e W' ⟨κ', S', h', ρ', ae, h1, h2, h3, h4, h5⟩ => ?_
  subst h4
  refine ⟨?_, h1.grown⟩
  cases e with
  | returned v =>
    obtain ⟨h3, _⟩ := h3
    cases h3
    rfl
  | _ => exact h3.elim

theorem grown_same {W W' : World} (h : Grown W W') {H : Type} {enc : TypeId × Value → H} {P : Program} {t : TypeId} {base n : Nat} {cs : List Value} {x : DataW H × List MemPlace}
    (hl : laidOutB P = true) (hr : P.readableRec t = true) (hrow : t < P.types.size)
    (hx : DataW.trod enc P W base (fun _ => true) true n t cs = some x) : ∀ p ∈ x.2, W.sameAt W' p := fun p hp =>
  h.1.sameAt (DataW.trod_lt n t cs x hx p hp) (fun f => f) (fun b e => by
    have := DataW.trod_good (kids_book hl hr) (fun h => by cases h) n t cs x ⟨hrow, book_self t⟩ hx p hp
    subst e
    exact this)

/-- An argument reads behind the call as it read before. -/
theorem grown_trod {W W' : World} (h : Grown W W') {H : Type} {enc : TypeId × Value → H} {P : Program} {t : TypeId} {v : Value} {d : DataW H} {ps : List MemPlace}
    (hl : laidOutB P = true) (hr : P.readableRec t = true) (hrow : t < P.types.size) (hx : DataW.Trod enc P W 0 (fun _ => true) true t v d ps) {sp : Nat → Bool} (hs : ∀ p ∈ ps, sp p.block = true) :
    DataW.Trod enc P W' 0 sp true t v d ps := by
  obtain ⟨n, hn⟩ := hx
  exact Trod_stays hl hr hrow ⟨n, hn⟩ (fun p hp => grown_same h hl hr hrow hn p hp) hs
theorem grown_trodAll {W W' : World} (h : Grown W W') {H : Type} {enc : TypeId × Value → H} {P : Program} (hl : laidOutB P = true) : ∀ {ts : List TypeId} {vs : List Value} {ds : List (DataW H)} {ps : List MemPlace},
    (∀ t ∈ ts, P.readableRec t = true ∧ t < P.types.size) → DataW.TrodAll enc P W 0 (fun _ => true) true ts vs ds ps → ∀ {sp : Nat → Bool}, (∀ p ∈ ps, sp p.block = true) → DataW.TrodAll enc P W' 0 sp true ts vs ds ps
  | [], vs, ds, ps, _, hx, sp, _ => by
    obtain ⟨rfl, rfl, rfl⟩ := trodAll_nil hx
    exact trodAll_mk0
  | t :: ts, vs, ds, ps, ht, hx, sp, hs => by
    obtain ⟨v, vs1, d, ds1, a, b, rfl, rfl, rfl, h1, h2⟩ := trodAll_cons hx
    exact trodAll_cons_mk (grown_trod h hl (ht t (by simp)).1 (ht t (by simp)).2 h1 fun p hp => hs p (by simp [hp]))
      (grown_trodAll h hl (fun t' h' => ht t' (by simp [h'])) h2 fun p hp => hs p (by simp [hp]))

/-- THE ROW's CONTRACT out of a walk that answers true. -/
theorem law_post {H : Type} {enc : TypeId × Value → H} {P : Program} {fn : Func} {f : FuncId} {s : ChangeSpec} {apart : Bool} {W : World} {args : Array Value} {ds gs : List (DataW H)} {before : List MemPlace} {xs : List AV} {R : AHeap → Prop} {tb : TypeId}
    (hl : laidOutB P = true) (hts : ∀ t ∈ fn.params.toList, P.readableRec t = true ∧ t < P.types.size) (hb : P.underlying tb = some .bool) (hres : fn.resultTypes = #[tb])
    (hvars : s.vars = []) (hfn : (s.fn H ds) = { results := [.lit (.bool true)], args := ds })
    (hW : DataW.Whole enc P fn.params.toList s.vars apart W args.toList ds gs before)
    (hc : ACalls P f xs (hA []) fun ae ah => ae = TEnd.av (.ret (.bool true) none) ∧ R ah) (hv : VRs [] (oldS W) W xs args.toList) :
    Calls P f args W fun e W' => ∃ v, e = .returned v ∧ s.post enc P fn apart true false false W args v W' := by
  have hW' := hW
  obtain ⟨p, q, hA0, hV, rfl, _, _⟩ := hW
  rw [hvars] at hV
  obtain ⟨rfl, rfl⟩ := trodVars_none hV
  have hcl := hc.law hv
  rw [Array.toArray_toList] at hcl
  refine hcl.mono fun e W' ⟨he, hg⟩ => ?_
  subst he
  refine ⟨_, rfl, post_of_same (pa := p) (pv := []) hW' (fun _ _ _ => ?_) (fun sp hs => ?_) (fun sp _ => ?_) (by simp) (hg.frame _) hg.2.1 (ok_one hres rfl (okWide_bool_mk hb _))⟩
  · rw [List.append_nil, hfn, hres]
    exact trodAll_cons_mk (shut_bool hb _) trodAll_mk0
  · rw [List.append_nil, hfn]
    exact grown_trodAll hg hl hts hA0 fun p hp => hs p (by simpa using hp)
  · rw [List.append_nil, hfn, hvars]
    rfl
end Go.AW
end

section
namespace Go.AW
open Go Go.RowKit Go.ChangeShapes Go.WideElems
section
variable {H : Type} {enc : TypeId × Value → H} {P : Program} {W : World} {base : Nat}

/-- An argument of one cell. -/
theorem arg_one (B : Bulk H) {tb : List (TypeId × TC)} (htb : tbOk P tb = true) {t : TypeId} {l : Leaf} (hm : leafOk P tb t l = true) {r : Reach} {b0 : Nat} {v : Value} {d : DataW H} {ps : List MemPlace} (hval : Value.okWide P W r b0 t v)
    (h : DataW.Trod enc P W base (fun _ => true) true t v d ps) : ∃ a, l.has a ∧ VR [] (oldS W) W a v ∧ a.wt ≤ B.b d ∧ a.okr = true := by
  have hns : ∀ cs, v ≠ .agg cs := by
    rintro cs rfl
    unfold leafOk at hm
    split at hm <;> split at hm <;> rename_i ht <;> first | (simp [Value.okWide, ht, Cell.okWide, Cell.ok] at hval; done) | (cases hm; done)
  have hty : tyOk P tb 8 t [l] = true := by
    unfold tyOk
    split
    · rename_i ht
      unfold leafOk at hm
      split at hm <;> rw [ht] at hm <;> cases hm
    · exact hm
  obtain ⟨as, h1, h2, h3, h4⟩ := Trod_shows B htb hty h
  obtain ⟨a, r, rfl, g1, g2⟩ := confs_cons h1
  obtain rfl := confs_nil g2
  have hl := h2.1
  match hc : v.cells.toList, hl with
  | [c], _ =>
    have e := cells_one_of hc hns
    subst e
    rw [hc] at h2
    exact ⟨a, g1, h2.2 0 a v rfl rfl, by simpa [AV.wts] using h3, by simpa [AV.okrs] using h4⟩

/-- An argument that is a struct. -/
theorem arg_struct (B : Bulk H) {tb : List (TypeId × TC)} (htb : tbOk P tb = true) {t : TypeId} {c : TC} {ls : List Leaf} (hls : leaves c = some ls) {fs : Array Field} (ht : P.underlying t = some (.struct fs)) (hm : tyOk P tb 8 t ls = true) {r : Reach} {b0 : Nat} {v : Value} {d : DataW H} {ps : List MemPlace}
    (hval : Value.okWide P W r b0 t v) (h : DataW.Trod enc P W base (fun _ => true) true t v d ps) :
    ∃ x : den c, VR [] (oldS W) W (.agg (cellsOfC c x)) v ∧ AV.wts (cellsOfC c x) ≤ B.b d ∧ AV.okrs (cellsOfC c x) = true := by
  have hv : ∃ cs, v = .agg cs := by
    simp only [Value.okWide, ht] at hval
    obtain ⟨cs, rfl, _⟩ := hval
    exact ⟨cs, rfl⟩
  obtain ⟨cs, rfl⟩ := hv
  obtain ⟨as, h1, h2, h3, h4⟩ := Trod_shows B htb hm h
  obtain ⟨x, rfl⟩ := conf_code hls h1
  refine ⟨x, .agg (by simpa [Value.cells] using h2.1) (cells_one c x) (fun j c' u hc hu => h2.2 j c' u hc (by simpa [Value.cells] using hu)), h3, h4⟩

theorem vrs_cons {κ : List Nat} {S : Nat → Nat → Prop} {w : World} {x : AV} {v : Value} {xs : List AV} {vs : List Value} (h : VR κ S w x v) (h' : VRs κ S w xs vs) : VRs κ S w (x :: xs) (v :: vs) :=
  vrs_append (vrs_one h) h'
theorem wf64 {n : Int} (h : (Lit.int .i64 n).wf = true) : -9223372036854775808 ≤ n ∧ n ≤ 9223372036854775807 := by
  simp [Lit.wf, IntKind.min, IntKind.max, IntKind.signed, IntKind.bits] at h
  omega
end
end Go.AW
end
