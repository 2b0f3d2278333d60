/- The abstract walk, first part: values without memory, what they say of memory, and the meaning of each operation, shown sound. -/
import Derived.Calls
import Derived.Defers
import Derived.Recover
import Derived.Orders
import Derived.Laws.Sem
import Derived.Laws.AppendOwn
import Derived.Laws.Slices
import Derived.Laws.Strings
import Derived.Lib.Strings
import Derived.Laws.Tables
import Derived.Laws.Build
import Derived.Laws.BytesArg
section
namespace Go.AW

/-- A value, told without memory: a slice is the list of its elements' cells, a string its bytes; a pointer leads into a box of the abstract heap, or ('vptr') to cells that are only read. -/
inductive AV where
  | bool (b : Bool)
  | int (k : IntKind) (n : Int)
  | str (s : List UInt8)
  | nilptr
  | ptr (k off : Nat)
  | vptr (cs : List AV)
  | nils
  | slice (es : List (List AV))
  | func (f : FuncId) (fst cap : List AV)
  | nilFunc
  | iface (t : TypeId) (v : AV)
  | nilIface
  | agg (cs : List AV)
  | tup (vs : List AV)
  | raw
  deriving Inhabited

def AV.one : AV → Bool
  | .agg _ | .tup _ | .raw => false
  | _ => true

def AV.cells : AV → List AV
  | .agg cs => cs
  | v => [v]

def _root_.Go.World.at_ (w : World) (b o : Nat) : Option Value := w.cell? ⟨b, o, none⟩

/-- What an abstract value stands for: κ: the blocks of the boxes; S: the cells that never change any more. -/
inductive VR (κ : List Nat) (S : Nat → Nat → Prop) (w : World) : AV → Value → Prop
  | bool (b) : VR κ S w (.bool b) (.bool b)
  | int (k n) : VR κ S w (.int k n) (.int k n)
  | str (l) : VR κ S w (.str l) (.string ⟨l.toArray⟩)
  | nilptr : VR κ S w .nilptr (.pointer none)
  | ptr {k off b : Nat} : κ[k]? = some b → VR κ S w (.ptr k off) (.pointer (some ⟨b, off, none⟩))
  | vptr {cs : List AV} {b off : Nat} : (∀ (j : Nat) (c : AV), cs[j]? = some c → S b (off + j) ∧ c.one = true ∧ (w.at_ b (off + j)).isSome) →
      (∀ (j : Nat) (c : AV) (v : Value), cs[j]? = some c → w.at_ b (off + j) = some v → VR κ S w c v) → VR κ S w (.vptr cs) (.pointer (some ⟨b, off, none⟩))
  | nils : VR κ S w .nils (.slice none 0 0)
  | slice0 {base : Option Addr} {cap : Nat} : VR κ S w (.slice []) (.slice base 0 cap)
  | slice {es : List (List AV)} {sz b off len cap : Nat} : es.length = len → len ≤ cap → (∀ e ∈ es, e.length = sz) →
      (∀ (j : Nat) (c : AV), es.flatten[j]? = some c → S b (off + j) ∧ c.one = true ∧ (w.at_ b (off + j)).isSome) →
      (∀ (j : Nat) (c : AV) (v : Value), es.flatten[j]? = some c → w.at_ b (off + j) = some v → VR κ S w c v) → VR κ S w (.slice es) (.slice (some ⟨b, off, none⟩) len cap)
  | func {f : FuncId} {fst cap : List AV} {fst' cap' : Array Value} : fst'.size = fst.length → cap'.size = cap.length →
      (∀ (j : Nat) (c : AV) (v : Value), fst[j]? = some c → fst'[j]? = some v → VR κ S w c v) →
      (∀ (j : Nat) (c : AV) (v : Value), cap[j]? = some c → cap'[j]? = some v → VR κ S w c v) → VR κ S w (.func f fst cap) (.func (.func f) fst' cap')
  | nilFunc : VR κ S w .nilFunc .nilFunc
  | iface {t : TypeId} {v : AV} {v' : Value} : VR κ S w v v' → VR κ S w (.iface t v) (.iface t v')
  | nilIface : VR κ S w .nilIface .nilIface
  | agg {cs : List AV} {arr : Array Value} : arr.size = cs.length → (∀ c ∈ cs, c.one = true) → (∀ (j : Nat) (c : AV) (v : Value), cs[j]? = some c → arr[j]? = some v → VR κ S w c v) → VR κ S w (.agg cs) (.agg arr)
  | tup {cs : List AV} {arr : Array Value} : arr.size = cs.length → (∀ (j : Nat) (c : AV) (v : Value), cs[j]? = some c → arr[j]? = some v → VR κ S w c v) → VR κ S w (.tup cs) (.tuple arr)
  | raw {v : Value} : VR κ S w .raw v

/-- What a call may not turn at all: the outside, what is printed, what is frozen, and blocks that are not rows of cells. -/
structure Still (w w' : World) : Prop where
  os : w'.os = w.os
  output : w'.output = w.output
  fresh : ∀ (i : Nat) (arr : Array Value) (T : TypeId) (fr : Nat × Nat), w.heap.size ≤ i → w'.heap[i]? = some (.cells arr T fr) → fr = (0, 0)
  other : ∀ i : Nat, i < w.heap.size → (∀ (c : Array Value) (t : TypeId) (fr : Nat × Nat), w.heap[i]? ≠ some (.cells c t fr)) → w'.heap[i]? = w.heap[i]?

theorem Still.refl (w : World) : Still w w :=
  ⟨rfl, rfl, fun i arr T fr h hh => by have := (Array.getElem?_eq_some_iff.1 hh).1; omega, fun _ _ _ => rfl⟩

theorem Still.trans {w w1 w2 : World} (h : Still w w1) (h' : Still w1 w2) (hs : w.heap.size ≤ w1.heap.size)
    (hg : ∀ (b : Nat) (arr : Array Value) (T : TypeId) (fr : Nat × Nat), w1.heap[b]? = some (.cells arr T fr) → ∃ arr' : Array Value, w2.heap[b]? = some (.cells arr' T fr) ∧ arr'.size = arr.size) : Still w w2 := by
  refine ⟨h'.os.trans h.os, h'.output.trans h.output, fun i arr T fr hi hh => ?_, fun i hi hc => ?_⟩
  · rcases Nat.lt_or_ge i w1.heap.size with hlt | hge
    · cases hx : w1.heap[i]? with
      | none => rw [Array.getElem?_eq_none_iff] at hx; omega
      | some o =>
        by_cases hcell : ∃ c t fr', o = .cells c t fr'
        · obtain ⟨c, t, fr', rfl⟩ := hcell
          have e1 := h.fresh i c t fr' hi hx
          obtain ⟨arr', g1, _⟩ := hg i c t fr' hx
          rw [g1] at hh
          injection hh with hh
          injection hh with _ _ hh
          rw [← hh, e1]
        · have := h'.other i hlt (fun c t fr' e => hcell ⟨c, t, fr', by rw [hx] at e; exact Option.some.inj e⟩)
          rw [this, hx] at hh
          exact absurd ⟨arr, T, fr, Option.some.inj hh⟩ hcell
    · exact h'.fresh i arr T fr hge hh
  · have e := h.other i hi hc
    rw [h'.other i (by omega) (fun c t fr => by rw [e]; exact hc c t fr), e]

theorem Still.heap {w w' : World} (h : w'.heap = w.heap) (h1 : w'.os = w.os) (h2 : w'.output = w.output) : Still w w' :=
  ⟨h1, h2, fun i arr T fr hi hh => by rw [h] at hh; have := (Array.getElem?_eq_some_iff.1 hh).1; omega, fun i _ _ => by rw [h]⟩

/-- A later moment: boxes may have come, cells may have come to be still; what was still stays. -/
structure Ext (F : Nat → Nat → Prop) (κ : List Nat) (S : Nat → Nat → Prop) (w : World) (κ' : List Nat) (S' : Nat → Nat → Prop) (w' : World) : Prop where
  pre : ∃ ks, κ' = κ ++ ks ∧ ∀ b ∈ ks, w.heap.size ≤ b
  sub : ∀ b o, S b o → S' b o
  keep : ∀ b o, S b o → w'.at_ b o = w.at_ b o
  keepF : ∀ b o, F b o → w'.at_ b o = w.at_ b o
  grow : ∀ (b : Nat) (arr : Array Value) (T : TypeId) (fr : Nat × Nat), w.heap[b]? = some (.cells arr T fr) → ∃ arr' : Array Value, w'.heap[b]? = some (.cells arr' T fr) ∧ arr'.size = arr.size
  size : w.heap.size ≤ w'.heap.size
  still : Still w w'

theorem Ext.refl {F : Nat → Nat → Prop} (κ : List Nat) (S : Nat → Nat → Prop) (w : World) : Ext F κ S w κ S w :=
  ⟨⟨[], by simp⟩, fun _ _ h => h, fun _ _ _ => rfl, fun _ _ _ => rfl, fun _ arr _ _ h => ⟨arr, h, rfl⟩, Nat.le_refl _, Still.refl w⟩

theorem Ext.trans {F : Nat → Nat → Prop} {κ κ1 κ2 : List Nat} {S S1 S2 : Nat → Nat → Prop} {w w1 w2 : World} (h : Ext F κ S w κ1 S1 w1) (h' : Ext F κ1 S1 w1 κ2 S2 w2) : Ext F κ S w κ2 S2 w2 := by
  obtain ⟨ks, rfl, hks⟩ := h.pre
  obtain ⟨ks', rfl, hks'⟩ := h'.pre
  refine ⟨⟨ks ++ ks', by simp, ?_⟩, fun b o hs => h'.sub _ _ (h.sub _ _ hs), fun b o hs => (h'.keep _ _ (h.sub _ _ hs)).trans (h.keep _ _ hs), fun b o hf => (h'.keepF _ _ hf).trans (h.keepF _ _ hf), ?_, Nat.le_trans h.size h'.size, h.still.trans h'.still h.size h'.grow⟩
  · intro b hb
    rcases List.mem_append.1 hb with hb | hb
    · exact hks b hb
    · exact Nat.le_trans h.size (hks' b hb)
  · intro b arr T fr hb
    obtain ⟨a1, h1, e1⟩ := h.grow b arr T fr hb
    obtain ⟨a2, h2, e2⟩ := h'.grow b a1 T fr h1
    exact ⟨a2, h2, e2.trans e1⟩

theorem Ext.less {F F' : Nat → Nat → Prop} {κ κ1 : List Nat} {S S1 : Nat → Nat → Prop} {w w1 : World} (h : Ext F κ S w κ1 S1 w1) (hf : ∀ b o, F' b o → F b o) : Ext F' κ S w κ1 S1 w1 :=
  ⟨h.pre, h.sub, h.keep, fun b o hb => h.keepF b o (hf b o hb), h.grow, h.size, h.still⟩

theorem Ext.get {F : Nat → Nat → Prop} {κ κ' : List Nat} {S S' : Nat → Nat → Prop} {w w' : World} (h : Ext F κ S w κ' S' w') {k b : Nat} (hk : κ[k]? = some b) : κ'[k]? = some b := by
  obtain ⟨ks, rfl, _⟩ := h.pre
  rw [List.getElem?_append_left (List.getElem?_eq_some_iff.1 hk).1]
  exact hk

theorem VR.ext {F : Nat → Nat → Prop} {κ κ' : List Nat} {S S' : Nat → Nat → Prop} {w w' : World} (h : Ext F κ S w κ' S' w') {x : AV} {v : Value} (hv : VR κ S w x v) : VR κ' S' w' x v := by
  induction hv with
  | bool b => exact .bool b
  | int k n => exact .int k n
  | str l => exact .str l
  | nilptr => exact .nilptr
  | ptr hk => exact .ptr (h.get hk)
  | vptr hS _ ih =>
    refine .vptr (fun j c hc => ?_) (fun j c v hc hw => ?_)
    · obtain ⟨h1, h2, h3⟩ := hS j c hc
      exact ⟨h.sub _ _ h1, h2, by rw [h.keep _ _ h1]; exact h3⟩
    · rw [h.keep _ _ (hS j c hc).1] at hw
      exact ih j c v hc hw
  | nils => exact .nils
  | slice0 => exact .slice0
  | slice h1 h2 h3 hS _ ih =>
    refine .slice h1 h2 h3 (fun j c hc => ?_) (fun j c v hc hw => ?_)
    · obtain ⟨h1, h2, h3⟩ := hS j c hc
      exact ⟨h.sub _ _ h1, h2, by rw [h.keep _ _ h1]; exact h3⟩
    · rw [h.keep _ _ (hS j c hc).1] at hw
      exact ih j c v hc hw
  | func h1 h2 _ _ ih1 ih2 => exact .func h1 h2 ih1 ih2
  | nilFunc => exact .nilFunc
  | iface _ ih => exact .iface ih
  | nilIface => exact .nilIface
  | agg h1 h2 _ ih => exact .agg h1 h2 ih
  | tup h1 _ ih => exact .tup h1 ih
  | raw => exact .raw

/-- A cell of a box: its value, and whether it owns the spare places behind its slice (of elements of that type). -/
structure Cell where
  v : AV
  o : Option TypeId := none

structure AHeap where
  blocks : List (List Cell)

/-- Who owns a row: a temporary, or a cell of a box. -/
inductive Cls where
  | tmp (n : Nat)
  | cell (k j : Nat)
  deriving DecidableEq

/-- v owns its row: whole block, and nothing behind its elements is still, or another's. -/
def Owned (P : Program) (κ : List Nat) (S F : Nat → Nat → Prop) (w : World) (v : Value) (e : TypeId) : Prop :=
  v = .slice none 0 0 ∨ ∃ (g n cap : Nat) (cur : Array Value) (i : TypeInfo), v = .slice (some ⟨g, 0, none⟩) n cap ∧ P.info? e = some i ∧ w.heap[g]? = some (.cells cur e (0, 0)) ∧ n ≤ cap ∧ cap ≤ maxLen ∧
    cur.size = cap * i.size ∧ g ∉ κ ∧ ∀ o, n * i.size ≤ o → ¬ S g o ∧ ¬ F g o

structure Inv (P : Program) (κ : List Nat) (S F : Nat → Nat → Prop) (w : World) (h : AHeap) (ρ : Cls → Option (Value × TypeId)) : Prop where
  len : κ.length = h.blocks.length
  nd : κ.Nodup
  blk : ∀ (k b : Nat) (cs : List Cell), κ[k]? = some b → h.blocks[k]? = some cs → ∃ (arr : Array Value) (T : TypeId), w.heap[b]? = some (.cells arr T (0, 0)) ∧ arr.size = cs.length ∧
    ∀ (j : Nat) (c : Cell) (v : Value), cs[j]? = some c → arr[j]? = some v → VR κ S w c.v v ∧ c.v.one = true ∧ ∀ e, c.o = some e → ρ (.cell k j) = some (v, e)
  sIn : ∀ b o, S b o → b < w.heap.size ∧ b ∉ κ
  fIn : ∀ b o, F b o → b < w.heap.size ∧ b ∉ κ ∧ ¬ S b o
  fUp : ∀ b o o', F b o → o ≤ o' → F b o'
  own : ∀ c v e, ρ c = some (v, e) → Owned P κ S F w v e
  dis : ∀ c c' v v' e e', c ≠ c' → ρ c = some (v, e) → ρ c' = some (v', e') → v.ownBlock = none ∨ v.ownBlock ≠ v'.ownBlock

/-- How a call ends. 'o': the result owns its row. -/
inductive AEnd where
  | ret (v : AV) (o : Option TypeId := none)
  | panic (v : AV)

def EndR (κ : List Nat) (S : Nat → Nat → Prop) (w : World) (ρ : Cls → Option (Value × TypeId)) : AEnd → Ending → Prop
  | .ret x o, .returned v => VR κ S w x v ∧ ∀ e, o = some e → ρ (.tmp 0) = some (v, e)
  | .panic x, .panicked [{ v := v, recovered := false, goexit := false }] => VR κ S w x v
  | _, _ => False

def VRs (κ : List Nat) (S : Nat → Nat → Prop) (w : World) (xs : List AV) (vs : List Value) : Prop :=
  vs.length = xs.length ∧ ∀ (j : Nat) (x : AV) (v : Value), xs[j]? = some x → vs[j]? = some v → VR κ S w x v

/-- A call, told abstractly: whatever world fits the arguments and the heap, the call comes to an end that fits. -/
def ACalls (P : Program) (f : FuncId) (args : List AV) (h : AHeap) (R : AEnd → AHeap → Prop) : Prop :=
  ∀ κ S F w ρ vs, Inv P κ S F w h ρ → VRs κ S w args vs → Calls P f vs.toArray w fun e w' =>
    ∃ κ' S' h' ρ' ae, Ext F κ S w κ' S' w' ∧ Inv P κ' S' F w' h' ρ' ∧ EndR κ' S' w' ρ' ae e ∧ R ae h'

theorem ACalls.mono {P : Program} {f : FuncId} {args : List AV} {h : AHeap} {R R' : AEnd → AHeap → Prop} (hc : ACalls P f args h R) (hr : ∀ ae h', R ae h' → R' ae h') : ACalls P f args h R' :=
  fun κ S F w ρ vs hi hv => (hc κ S F w ρ vs hi hv).mono fun _ _ ⟨κ', S', h', ρ', ae, h1, h2, h3, h4⟩ => ⟨κ', S', h', ρ', ae, h1, h2, h3, hr _ _ h4⟩

end Go.AW
end

section
namespace Go.AW

/-- A constant, told abstractly; what is none of these is 'raw': nothing is known of it. -/
def cav : Value → AV
  | .bool b => .bool b
  | .int k n => .int k n
  | .string s => .str s.data.toList
  | .pointer none => .nilptr
  | .slice none 0 0 => .nils
  | .nilFunc => .nilFunc
  | .nilIface => .nilIface
  | .func (.func f) a b => if a.size = 0 ∧ b.size = 0 then .func f [] [] else .raw
  | _ => .raw

structure ASt where
  tm : Nat → AV
  cl : Nat → Option (Cls × TypeId)
  h : AHeap
  df : List (FuncId × List AV)

def ASt.put (s : ASt) (d : Option Nat) (v : AV) (c : Option (Cls × TypeId) := none) : ASt :=
  match d with
  | some d => { s with tm := fun t => if t = d then v else s.tm t, cl := fun t => if t = d then c else s.cl t }
  | none => s

/-- Nobody holds this right any more. -/
def killf (k : Cls) : Option (Cls × TypeId) → Option (Cls × TypeId)
  | some (c, e) => if c = k then none else some (c, e)
  | none => none

def ASt.kill (s : ASt) (k : Cls) : ASt := { s with cl := fun t => killf k (s.cl t) }

/-- The boxes' cells may have been turned: temporaries hold no right of theirs. -/
def killc : Option (Cls × TypeId) → Option (Cls × TypeId)
  | some (.tmp n, e) => some (.tmp n, e)
  | _ => none

def ASt.killCells (s : ASt) : ASt := { s with cl := fun t => killc (s.cl t) }

def ASt.ev (s : ASt) : Operand → AV
  | .tmp t => s.tm t
  | .const v => cav v
  | .func f => .func f [] []
  | .global _ => .raw

def ASt.evc (s : ASt) : Operand → Option (Cls × TypeId)
  | .tmp t => s.cl t
  | _ => none

section
variable (P : Program)
def szOf (t : TypeId) : Option Nat := (P.info? t).map (·.size)
def bytesOf (t : TypeId) : Option Nat := (P.info? t).map (·.bytes)
def aggOf (t : TypeId) : Option Bool := (P.underlying t).map fun | .struct _ | .array .. => true | _ => false
def elemOf (t : TypeId) : Option TypeId := (P.underlying t).bind fun | .slice e => some e | _ => none
/-- A field's place in a struct: its first cell, its type's size, whether it is a struct or an array itself. -/
def fldOf (t : TypeId) (f : Nat) : Option (Nat × Nat × Bool) :=
  match P.underlying t with
  | some (.struct fs) => match fs[f]? with
    | some g => match szOf P g.type, aggOf P g.type with
      | some z, some a => some (g.offset, z, a)
      | _, _ => none
    | none => none
  | _ => none
def zeroOf (t : TypeId) : Option (List AV) := ((P.info? t).bind (·.zero)).bind fun z => if (z.cells.toList.map cav).all AV.one then some (z.cells.toList.map cav) else none
def hasBody (f : FuncId) : Bool := match P.funcs[f]? with
  | some fn => fn.body.isSome && fn.name != "runtime.NumGoroutine"
  | none => false
end

/-- Parts of a struct laid into its cells: each at its place. -/
def fillA : List (Nat × AV) → List AV → List AV
  | [], cs => cs
  | (off, v) :: rest, cs => fillA rest (cs.take off ++ v.cells ++ cs.drop (off + v.cells.length))

def okFill (n : Nat) : List (Nat × Nat × AV) → Bool
  | [] => true
  | (off, z, v) :: rest => v.cells.length == z && decide (off + z ≤ n) && v.cells.all AV.one && okFill n rest

def AHeap.get (h : AHeap) (k j : Nat) : Option Cell := h.blocks[k]?.bind (·[j]?)

def AHeap.new (h : AHeap) (cs : List Cell) : AHeap := ⟨h.blocks ++ [cs]⟩

/-- Cells of one box written. -/
def AHeap.set (h : AHeap) (k off : Nat) (cs : List Cell) : AHeap :=
  ⟨h.blocks.modify k fun b => b.take off ++ cs ++ b.drop (off + cs.length)⟩

def AHeap.row (h : AHeap) (k off n : Nat) : Option (List Cell) :=
  match h.blocks[k]? with
  | some b => if off + n ≤ b.length then some ((b.drop off).take n) else none
  | none => none

inductive AExit where
  | normal
  | exit (id : Nat)
  | ret
  | panic (v : AV)

/-- Nothing is known of the temporaries. -/
def ASt.bare (s : ASt) : ASt := { s with tm := fun _ => .raw, cl := fun _ => none }

def binA (op : BinOp) (x y : AV) : Option AV :=
  match op, x, y with
  | .shl, .int k a, .int _ b => if b < 0 then none else some (.int k (k.wrap (a * 2 ^ min b.toNat k.bits)))
  | .shr, .int k a, .int _ b => if b < 0 then none else some (.int k (a.fdiv (2 ^ min b.toNat k.bits)))
  | .add, .int k a, .int k' b => if k = k' then some (.int k (k.wrap (a + b))) else none
  | .sub, .int k a, .int k' b => if k = k' then some (.int k (k.wrap (a - b))) else none
  | .mul, .int k a, .int k' b => if k = k' then some (.int k (k.wrap (a * b))) else none
  | .quo, .int k a, .int k' b => if k = k' then (if b = 0 then none else some (.int k (k.wrap (a.tdiv b)))) else none
  | .rem, .int k a, .int k' b => if k = k' then (if b = 0 then none else some (.int k (a.tmod b))) else none
  | .and, .int k a, .int k' b => if k = k' then some (.int k (k.wrap (BitVec.ofInt k.bits a &&& BitVec.ofInt k.bits b).toNat)) else none
  | .or, .int k a, .int k' b => if k = k' then some (.int k (k.wrap (BitVec.ofInt k.bits a ||| BitVec.ofInt k.bits b).toNat)) else none
  | .xor, .int k a, .int k' b => if k = k' then some (.int k (k.wrap (BitVec.ofInt k.bits a ^^^ BitVec.ofInt k.bits b).toNat)) else none
  | .andNot, .int k a, .int k' b => if k = k' then some (.int k (k.wrap (BitVec.ofInt k.bits a &&& ~~~BitVec.ofInt k.bits b).toNat)) else none
  | .eql, .int k a, .int k' b => if k = k' then some (.bool (a == b)) else none
  | .neq, .int k a, .int k' b => if k = k' then some (.bool (a != b)) else none
  | .lss, .int k a, .int k' b => if k = k' then some (.bool (decide (a < b))) else none
  | .leq, .int k a, .int k' b => if k = k' then some (.bool (decide (a ≤ b))) else none
  | .gtr, .int k a, .int k' b => if k = k' then some (.bool (decide (a > b))) else none
  | .geq, .int k a, .int k' b => if k = k' then some (.bool (decide (a ≥ b))) else none
  | .add, .str a, .str b => if a.length + b.length ≤ 9223372036854775807 then some (.str (a ++ b)) else none
  | .eql, .str a, .str b => some (.bool (a == b))
  | .neq, .str a, .str b => some (.bool (!(a == b)))
  | .lss, .str a, .str b => some (.bool (Op.bytesLess a b))
  | .geq, .str a, .str b => some (.bool (!Op.bytesLess a b))
  | _, _, _ => none

/-- Pointers are held against nil alone. -/
def ptrA (op : BinOp) (x y : AV) : Option AV :=
  match op, x, y with
  | .eql, .nilptr, .nilptr => some (.bool true)
  | .eql, .nilptr, .ptr _ _ => some (.bool false)
  | .eql, .ptr _ _, .nilptr => some (.bool false)
  | .neq, .nilptr, .nilptr => some (.bool false)
  | .neq, .nilptr, .ptr _ _ => some (.bool true)
  | .neq, .ptr _ _, .nilptr => some (.bool true)
  | _, _, _ => none

/-- An interface value is held against nil alone. -/
def ifaceA (op : BinOp) (x : AV) : Option AV :=
  match op, x with
  | .eql, .nilIface => some (.bool true)
  | .neq, .nilIface => some (.bool false)
  | .eql, .iface _ _ => some (.bool false)
  | .neq, .iface _ _ => some (.bool true)
  | _, _ => none

def unA (op : UnOp) (x : AV) : Option AV :=
  match op, x with
  | .neg, .int k n => some (.int k (k.wrap (0 - n)))
  | .xor, .int k n => some (.int k (k.wrap (BitVec.ofInt k.bits (if k.signed then -1 else k.max) ^^^ BitVec.ofInt k.bits n).toNat))
  | .not, .bool b => some (.bool (!b))
  | _, _ => none

/-- The bytes of a slice of bytes. -/
def bytesA : List (List AV) → Option (List UInt8)
  | [] => some []
  | [.int .u8 n] :: r => (bytesA r).map (UInt8.ofNat n.toNat :: ·)
  | _ => none

/-- All fields' types have a size. -/
def placesOf (P : Program) (t : TypeId) : Option (List (Nat × Nat)) := match P.underlying t with
  | some (.struct fs) => fs.toList.mapM fun f => (P.info? f.type).map fun i => (f.offset, i.size)
  | _ => none

/-- The parts of a struct that is built: place, size, value. -/
def partsA (pl : List (Nat × Nat)) (ev : Operand → AV) : List (Nat × Operand) → Option (List (Nat × Nat × AV))
  | [] => some []
  | (i, x) :: r => match pl[i]?, partsA pl ev r with
    | some (o, n), some l => some ((o, n, ev x) :: l)
    | _, _ => none

/-- The parts of an array or a slice that is built. -/
def elemsA (n : Nat) (ev : Operand → AV) : List (Nat × Operand) → List (Nat × Nat × AV)
  | [] => []
  | (i, x) :: r => (i * n, n, ev x) :: elemsA n ev r

/-- Parts laid into cells, if they fit. -/
def laidA (z : List AV) (l : List (Nat × Nat × AV)) : Option (List AV) :=
  if okFill z.length l then some (fillA (l.map fun p => (p.1, p.2.2)) z) else none

def lenA : Option TypeDesc → AV → Option AV
  | some .string, .str s => some (.int .i64 s.length)
  | some (.slice _), .slice es => some (.int .i64 es.length)
  | some (.slice _), .nils => some (.int .i64 0)
  | some (.array n _), _ => some (.int .i64 n)
  | _, _ => none

def minA : AV → AV → Option AV
  | .int k a, .int _ b => some (.int k (if b < a then b else a))
  | _, _ => none

def maxA : AV → AV → Option AV
  | .int k a, .int _ b => some (.int k (if b > a then b else a))
  | _, _ => none

/-- An operation that only reckons with temporaries: its value. -/
def pureA (P : Program) (op : Op) (ev : Operand → AV) : Option AV :=
  match op with
  | .move x | .assign x => some (ev x)
  | .pick c a b => match ev c with
    | .bool t => some (if t then ev a else ev b)
    | _ => none
  | .build t parts => match P.underlying t, zeroOf P t with
    | some (.struct _), some z => (placesOf P t).bind fun pl => (partsA pl ev parts.toList).bind fun l => (laidA z l).map .agg
    | some (.array _ e), some z => (szOf P e).bind fun n => (laidA z (elemsA n ev parts.toList)).map .agg
    | _, _ => none
  | .fieldAddr t x f => match ev x, fldOf P t f with
    | .ptr k off, some (o, z, _) => if z = 0 then none else some (.ptr k (off + o))
    | .vptr cs, some (o, z, _) => if z = 0 then none else some (.vptr (cs.drop o))
    | _, _ => none
  | .field t x f => match ev x, fldOf P t f with
    | .agg cs, some (o, z, true) => if o + z ≤ cs.length then some (.agg ((cs.drop o).take z)) else none
    | .agg cs, some (o, _, false) => cs[o]?
    | _, _ => none
  | .indexAddr t x i => match ev x, ev i, P.underlying t with
    | .slice es, .int _ n, some (.slice e) => if 0 ≤ n then
        match es[n.toNat]?, szOf P e with
        | some c, some z => if c.length = z then some (.vptr c) else none
        | _, _ => none
      else none
    | .ptr k off, .int _ n, some (.array len e) => if 0 ≤ n ∧ n < len then (szOf P e).map fun z => .ptr k (off + n.toNat * z) else none
    | _, _, _ => none
  | .index t x i => match ev x, ev i, P.underlying t with
    | .str s, .int _ n, some .string => if 0 ≤ n then (s[n.toNat]?).map fun b => .int .u8 b.toNat else none
    | .agg cs, .int _ n, some (.array len e) => if 0 ≤ n ∧ n < len then
        match szOf P e, aggOf P e with
        | some z, some true => if (n.toNat + 1) * z ≤ cs.length then some (.agg ((cs.drop (n.toNat * z)).take z)) else none
        | some z, some false => cs[n.toNat * z]?
        | _, _ => none
      else none
    | _, _, _ => none
  | .slice t x lo hi none => match ev x, P.underlying t, lo.map ev, hi.map ev with
    | .str s, some .string, none, none => some (.str s)
    | .str s, some .string, some (.int _ l), none => if 0 ≤ l ∧ l ≤ s.length then some (.str (s.drop l.toNat)) else none
    | .str s, some .string, none, some (.int _ h) => if 0 ≤ h ∧ h ≤ s.length then some (.str (s.take h.toNat)) else none
    | .str s, some .string, some (.int _ l), some (.int _ h) => if 0 ≤ l ∧ l ≤ h ∧ h ≤ s.length then some (.str ((s.take h.toNat).drop l.toNat)) else none
    | .slice s, some (.slice e), none, none => (szOf P e).map fun _ => .slice s
    | .slice s, some (.slice e), some (.int _ l), none => if 0 ≤ l ∧ l ≤ s.length then
        match szOf P e with | some z => if s.all (·.length == z) then some (.slice (s.drop l.toNat)) else none | none => none else none
    | .slice s, some (.slice e), none, some (.int _ h) => match szOf P e with | some _ => if 0 ≤ h ∧ h ≤ s.length then some (.slice (s.take h.toNat)) else none | none => none
    | .slice s, some (.slice e), some (.int _ l), some (.int _ h) => if 0 ≤ l ∧ l ≤ h ∧ h ≤ s.length then
        match szOf P e with | some z => if s.all (·.length == z) then some (.slice ((s.take h.toNat).drop l.toNat)) else none | none => none else none
    | _, _, _, _ => none
  | .binOp op t x y _ => match P.underlying t with
    | some .bool => match op, ev x, ev y with
      | .eql, .bool a, .bool b => some (.bool (a == b))
      | .neq, .bool a, .bool b => some (.bool (!(a == b)))
      | _, _, _ => none
    | some (.interface _) => match y with
      | .const .nilIface => ifaceA op (ev x)
      | _ => none
    | some (.pointer _) => ptrA op (ev x) (ev y)
    | some (.int _) | some .string => match ev x, ev y with
      | .int k a, .int k' b => binA op (.int k a) (.int k' b)
      | .str a, .str b => binA op (.str a) (.str b)
      | _, _ => none
    | _ => none
  | .unOp op _ x => unA op (ev x)
  | .convert src dst x => match P.underlying src, P.underlying dst, ev x with
    | some (.int _), some (.int k), .int _ n => some (.int k (k.wrap n))
    | some .string, some .string, .str s => some (.str s)
    | some (.slice e), some .string, .slice es => match P.underlying e with
      | some (.int .u8) => (bytesA es).map .str
      | _ => none
    | some (.slice e), some .string, .nils => match P.underlying e with
      | some (.int .u8) => some (.str [])
      | _ => none
    | _, _, _ => none
  | .makeInterface t x => match P.underlying t with
    | some (.interface _) | none => none
    | _ => some (.iface t (ev x))
  | .makeFunc (.func f) fst cap => some (.func f (fst.toList.map ev) (cap.toList.map ev))
  | .extract x i => match ev x with
    | .tup vs => vs[i]?
    | _ => none
  | .nilCheck x => match ev x with
    | .ptr k off => some (.ptr k off)
    | .vptr cs => some (.vptr cs)
    | _ => none
  | .typeAssert x _ t ok => match ev x, P.underlying t with
    | .iface t' v, some d => match d with
      | .interface _ => none
      | _ => if t' = t then some (if ok then .tup [v, .bool true] else v) else none
    | _, _ => none
  | .call c => match c.callee, c.args.toList, c.argTypes.toList with
    | .builtin .len, [x], [t] => lenA (P.underlying t) (ev x)
    | .builtin .min, [x, y], _ => minA (ev x) (ev y)
    | .builtin .max, [x, y], _ => maxA (ev x) (ev y)
    | _, _, _ => none
  | _ => none

def srcOf : Op → Option Nat
  | .move (.tmp t) | .assign (.tmp t) => some t
  | _ => none

/-- The cells of a value that is stored: with the right of its row, if it brings one. -/
def cellsOf (v : AV) (c : Option (Cls × TypeId)) : List Cell :=
  match v with
  | .agg cs => cs.map fun x => { v := x, o := none }
  | v => [{ v, o := match c with | some (.tmp _, e) => some e | _ => none }]

/-- The cells k, off .. off + n - 1 hold something else now: nobody holds a right of theirs. -/
def killRow (k off n : Nat) : Option (Cls × TypeId) → Option (Cls × TypeId)
  | some (.cell k' j, e) => if k' = k ∧ off ≤ j ∧ j < off + n then none else some (.cell k' j, e)
  | x => x

/-- A nil slice, told as an empty one. -/
def AV.full : AV → AV
  | .nils => .slice []
  | v => v

/-- Who stores a right into a cell has it no longer. -/
def killTmp (c : Option (Cls × TypeId)) (x : Option (Cls × TypeId)) : Option (Cls × TypeId) :=
  match c with
  | some (.tmp n, _) => killf (.tmp n) x
  | _ => x

/-- The right is used up: a cell that had it has it no longer. -/
def AHeap.consume (h : AHeap) : Cls → AHeap
  | .cell k j => ⟨h.blocks.modify k fun b => b.modify j fun c => { c with o := none }⟩
  | .tmp _ => h

/-- A Go function is called: what comes behind it. -/
def callA0 (P : Program) (dst : Option Nat) (f : AV) (args : List AV) (s : ASt) (K : ASt → Prop) (Q : AExit → ASt → Prop) : Prop :=
  match f with
  | .func g fst cap => hasBody P g = true ∧ ACalls P g (fst ++ args ++ cap) s.h fun ae h' =>
      match ae with
      | .ret v o => K ((({ s with h := h' } : ASt).killCells.kill (.tmp (dst.getD 0))).put dst v (o.map fun e => (.tmp (dst.getD 0), e)))
      | .panic v => Q (.panic v) ({ s with h := h' } : ASt).bare
  | _ => False

/-- Rights of the first m boxes' cells are gone. -/
def killb (m : Nat) : Option (Cls × TypeId) → Option (Cls × TypeId)
  | some (.cell k j, e) => if k < m then none else some (.cell k j, e)
  | x => x

/-- No pointer into a box from n on. -/
inductive Bel (n : Nat) : AV → Prop
  | bool (b) : Bel n (.bool b)
  | int (k m) : Bel n (.int k m)
  | str (s) : Bel n (.str s)
  | nilptr : Bel n .nilptr
  | ptr {k off : Nat} : k < n → Bel n (.ptr k off)
  | vptr {cs : List AV} : (∀ c ∈ cs, Bel n c) → Bel n (.vptr cs)
  | nils : Bel n .nils
  | slice {es : List (List AV)} : (∀ c ∈ es.flatten, Bel n c) → Bel n (.slice es)
  | func {f : FuncId} {fst cap : List AV} : (∀ c ∈ fst, Bel n c) → (∀ c ∈ cap, Bel n c) → Bel n (.func f fst cap)
  | nilFunc : Bel n .nilFunc
  | iface {t : TypeId} {v : AV} : Bel n v → Bel n (.iface t v)
  | nilIface : Bel n .nilIface
  | agg {cs : List AV} : (∀ c ∈ cs, Bel n c) → Bel n (.agg cs)
  | tup {cs : List AV} : (∀ c ∈ cs, Bel n c) → Bel n (.tup cs)
  | raw : Bel n .raw

/-- All that lies in the boxes leads into boxes that are there. -/
def Closed (h : AHeap) : Prop := ∀ (k : Nat) (blk : List Cell), h.blocks[k]? = some blk → ∀ c ∈ blk, Bel h.blocks.length c.v

/-- A Go function is called that sees the first m boxes alone: the others stay as they are. -/
def frameA (P : Program) (m : Nat) (dst : Option Nat) (f : AV) (args : List AV) (s : ASt) (K : ASt → Prop) (Q : AExit → ASt → Prop) : Prop :=
  match f with
  | .func g fst cap => hasBody P g = true ∧ m ≤ s.h.blocks.length ∧ (∀ x ∈ fst ++ args ++ cap, Bel m x) ∧ Closed ⟨s.h.blocks.take m⟩ ∧ ACalls P g (fst ++ args ++ cap) ⟨s.h.blocks.take m⟩ fun ae h' =>
      h'.blocks.length = m ∧ match ae with
      | .ret v o => K (({ s with h := ⟨h'.blocks ++ s.h.blocks.drop m⟩, cl := fun t => killf (.tmp (dst.getD 0)) (killb m (s.cl t)) } : ASt).put dst v (o.map fun e => (.tmp (dst.getD 0), e)))
      | .panic v => Q (.panic v) ({ s with h := ⟨h'.blocks ++ s.h.blocks.drop m⟩ } : ASt).bare
  | _ => False

def callA (P : Program) (dst : Option Nat) (f : AV) (args : List AV) (s : ASt) (K : ASt → Prop) (Q : AExit → ASt → Prop) : Prop :=
  callA0 P dst f args s K Q ∨ ∃ m, frameA P m dst f args s K Q

/-- What is appended to: its elements, and the right by which that may be done in place. -/
def appA (v : AV) (c : Option (Cls × TypeId)) (e : TypeId) : Option (List (List AV) × Option Cls) :=
  match v, c with
  | .nils, _ => some ([], none)
  | .slice es, some (c, e') => if e' = e then some (es, some c) else none
  | _, _ => none

/-- What is appended: its elements. -/
def newsA : AV → Option (List (List AV))
  | .nils => some []
  | .slice es => some es
  | _ => none

def deferA (f : AV) (args : List AV) (s : ASt) (K : ASt → Prop) : Prop :=
  match f with
  | .func g fst cap => K { s with df := (g, fst ++ args ++ cap) :: s.df }
  | _ => False

def appendA (P : Program) (dst : Option Nat) (t t' : TypeId) (x : AV) (cx : Option (Cls × TypeId)) (y : AV) (s : ASt) (K : ASt → Prop) : Prop :=
  match elemOf P t with
  | some e => t' = t ∧ match appA x cx e, newsA y, bytesOf P e, szOf P e, zeroOf P e with
    | some (es, c), some ys, some b, some z, some zs => (es.length + ys.length) * b ≤ 140737488355328 ∧ es.length + ys.length ≤ 9223372036854775807 ∧ 0 < z ∧ zs.length = z ∧ es.all (·.length == z) = true ∧ ys.all (·.length == z) = true ∧
        K (((match c with | some c => ({ s with h := s.h.consume c } : ASt).kill c | none => s).kill (.tmp (dst.getD 0))).put dst (.slice (es ++ ys)) (dst.map fun d => (.tmp d, e)))
    | _, _, _, _, _ => False
  | none => False

def aop (P : Program) (o : Oper) (s : ASt) (K : ASt → Prop) (Q : AExit → ASt → Prop) : Prop :=
  match o.op with
  | .alloc t => match zeroOf P t with
    | some z => K (({ s with h := s.h.new (z.map fun v => { v }) } : ASt).put o.dst (.ptr s.h.blocks.length 0))
    | none => False
  | .box _ x => (s.ev x).cells.all AV.one = true ∧ K (({ s with h := s.h.new ((s.ev x).cells.map fun v => { v }) } : ASt).put o.dst (.ptr s.h.blocks.length 0))
  | .load t x => match s.ev x, szOf P t, aggOf P t with
    | .ptr k off, some z, some true => match s.h.row k off z with
      | some cs => K (s.put o.dst (.agg (cs.map (·.v))))
      | none => False
    | .ptr k off, some _, some false => match s.h.get k off with
      | some c => K (s.put o.dst c.v (c.o.map fun e => (.cell k off, e)))
      | none => False
    | .vptr cs, some z, some true => if z ≤ cs.length then K (s.put o.dst (.agg (cs.take z))) else False
    | .vptr cs, some _, some false => match cs with
      | c :: _ => K (s.put o.dst c)
      | [] => False
    | _, _, _ => False
  | .store t x y => match s.ev x, szOf P t with
    | .ptr k off, some z => (s.ev y).cells.length = z ∧ (s.ev y).cells.all AV.one = true ∧ (s.h.row k off z).isSome = true ∧
        K (({ s with h := s.h.set k off (cellsOf (s.ev y) (s.evc y)), cl := fun t => killTmp (s.evc y) (killRow k off z (s.cl t)) } : ASt).put o.dst .raw)
    | _, _ => False
  | .buildSlice t n parts => match elemOf P t with
    | some e => match szOf P e, zeroOf P e with
      | some z, some zs => n * z ≤ 16777216 ∧ 0 < z ∧ zs.length = z ∧ match laidA (List.replicate n zs).flatten (elemsA z s.ev parts.toList) with
        | some cs => K ((s.kill (.tmp (o.dst.getD 0))).put o.dst (.slice ((List.range n).map fun i => ((cs.drop (i * z)).take z).map AV.full)) (o.dst.map fun d => (.tmp d, e)))
        | none => False
      | _, _ => False
    | none => False
  | .call c => match c.callee with
    | .builtin .append => match c.args.toList, c.argTypes.toList with
      | [x, y], [t, t'] => appendA P o.dst t t' (s.ev x) (s.evc x) (s.ev y) s K
      | _, _ => False
    | .value f => callA P o.dst (s.ev f) (c.args.toList.map s.ev) s K Q
    | _ => match pureA P o.op s.ev with
      | some v => K (s.put o.dst v)
      | none => False
  | .defer c => match c.callee with
    | .value f => deferA (s.ev f) (c.args.toList.map s.ev) s fun s' => K (s'.put o.dst .raw)
    | _ => False
  | .panic x => match s.ev x with
    | .iface t v => Q (.panic (.iface t v)) s.bare
    | _ => False
  | op => match pureA P op s.ev with
    | some v => K (s.put o.dst v ((srcOf op).bind s.cl))
    | none => False

/-- May this operation run at all? -/
def gateA (ops : Array Oper) (s : ASt) (o : Oper) : Option Bool :=
  match o.guard with
  | none => some true
  | some (j, want) => match (ops[j]?).bind (·.dst) with
    | some d => match s.tm d with
      | .bool b => some (b == want)
      | .tup [] => some false
      | _ => none
    | none => none

def aops (P : Program) (ops : Array Oper) (Q : AExit → ASt → Prop) : List Nat → ASt → Prop
  | [], s => Q .normal s
  | i :: rest, s => match ops[i]? with
    | none => aops P ops Q rest s
    | some o => match gateA ops s o with
      | some g => if g = true then aop P o s (aops P ops Q rest) Q else aops P ops Q rest (s.put o.dst (.tup []))
      | none => False

/-- The second says less: an empty slice may be nil. -/
inductive LE : AV → AV → Prop
  | refl (x : AV) : LE x x
  | nil : LE .nils (.slice [])
  | agg {as bs : List AV} : as.length = bs.length → (∀ (j : Nat) (a b : AV), as[j]? = some a → bs[j]? = some b → LE a b) → LE (.agg as) (.agg bs)
  | tup {as bs : List AV} : as.length = bs.length → (∀ (j : Nat) (a b : AV), as[j]? = some a → bs[j]? = some b → LE a b) → LE (.tup as) (.tup bs)

/-- Less is told of a frame: of some temporaries nothing, of some rights nothing; boxes that nothing leads to are forgotten. -/
structure Weak (n0 : Nat) (s s' : ASt) : Prop where
  tm : ∀ t, (LE (s.tm t) (s'.tm t) ∧ Bel s'.h.blocks.length (s'.tm t)) ∨ s'.tm t = .raw
  gr : ∃ G : Cls → Option TypeId,
    (∀ t c e, s'.cl t = some (c, e) → (G c = none ∧ s.cl t = some (c, e)) ∨ (G c = some e ∧ (∃ n, c = .tmp n) ∧ s.tm t = .nils)) ∧
    (∀ (k j : Nat) (blk blk' : List Cell) (c c' : Cell), s.h.blocks[k]? = some blk → s'.h.blocks[k]? = some blk' → blk[j]? = some c → blk'[j]? = some c' →
      LE c.v c'.v ∧ ∀ e, c'.o = some e → (G (.cell k j) = none ∧ c.o = some e) ∨ (G (.cell k j) = some e ∧ c.v = .nils))
  df : s'.df = s.df ∧ ∀ x ∈ s.df, ∀ a ∈ x.2, Bel s'.h.blocks.length a
  hp : s'.h.blocks.length ≤ s.h.blocks.length ∧ ∀ (k : Nat) (blk blk' : List Cell), s.h.blocks[k]? = some blk → s'.h.blocks[k]? = some blk' → blk.length = blk'.length
  len : n0 ≤ s'.h.blocks.length
  closed : Closed s'.h

def thenA (K : ASt → Prop) (Q : AExit → ASt → Prop) : AExit → ASt → Prop
  | .normal, s => K s
  | e, s => Q e s

def inBlockA (id : Nat) (Q : AExit → ASt → Prop) : AExit → ASt → Prop
  | .exit id', s => if id' = id then Q .normal s else Q (.exit id') s
  | e, s => Q e s

def acode (P : Program) (n0 : Nat) : Code → (AExit → ASt → Prop) → ASt → Prop
  | .skip, Q, s => Q .normal s
  | .region _ ops draw, Q, s => if draw = true then ∀ t, aops P ops Q (Region.schedule (P.follows .mixedOrders) ops t) s else aops P ops Q (List.range ops.size) s
  | .seq a b, Q, s => ∃ M : ASt → Prop, acode P n0 a (thenA (fun s => ∃ s', (s' = s ∨ Weak n0 s s') ∧ M s') Q) s ∧ ∀ s', M s' → acode P n0 b Q s'
  | .cond c a b, Q, s => match s.ev c with
    | .bool t => if t = true then acode P n0 a Q s else acode P n0 b Q s
    | _ => False
  | .block id c, Q, s => acode P n0 c (inBlockA id Q) s
  | .loop c, Q, s => ∃ (I : ASt → Prop) (μ : ASt → Nat), (∃ s', (s' = s ∨ Weak n0 s s') ∧ I s') ∧ ∀ s', I s' → acode P n0 c (thenA (fun s'' => ∃ s3, (s3 = s'' ∨ Weak n0 s'' s3) ∧ I s3 ∧ μ s3 < μ s') Q) s'
  | .exit id, Q, s => Q (.exit id) s
  | .ret, Q, s => Q .ret s
  | _, _, _ => False

end Go.AW
end

section
namespace Go.AW

section
variable {P : Program} {κ : List Nat} {S F : Nat → Nat → Prop} {w : World}

theorem VR.list {cs : List AV} {arr : Array Value} (hn : arr.size = cs.length) (h : ∀ (j : Nat) (c : AV) (v : Value), cs[j]? = some c → arr[j]? = some v → VR κ S w c v)
    {j : Nat} {c : AV} (hj : cs[j]? = some c) : ∃ v, arr[j]? = some v ∧ VR κ S w c v := by
  have hlt : j < arr.size := by rw [hn]; exact (List.getElem?_eq_some_iff.1 hj).1
  exact ⟨arr[j], by simp [hlt], h j c _ hj (by simp [hlt])⟩

theorem VR.list' {cs : List AV} {arr : Array Value} (hn : arr.size = cs.length) (h : ∀ (j : Nat) (c : AV) (v : Value), cs[j]? = some c → arr[j]? = some v → VR κ S w c v)
    {j : Nat} {v : Value} (hj : arr[j]? = some v) : ∃ c, cs[j]? = some c ∧ VR κ S w c v := by
  have hlt : j < cs.length := by rw [← hn]; exact (Array.getElem?_eq_some_iff.1 hj).1
  exact ⟨cs[j], by simp [hlt], h j _ v (by simp [hlt]) hj⟩

theorem run_under {t : TypeId} {d : TypeDesc} (h : P.underlying t = some d) : (underlying t).run P w = .ok d w := by
  simp [underlying, h]

theorem run_size {t : TypeId} {z : Nat} (h : szOf P t = some z) : (sizeOf t).run P w = .ok z w := by
  unfold szOf at h
  cases hi : P.info? t with
  | none => simp [hi] at h
  | some i => simp [hi] at h; simp [sizeOf, typeInfo, hi, h]

theorem run_agg {t : TypeId} {b : Bool} (h : aggOf P t = some b) : (isAgg t).run P w = .ok b w := by
  unfold aggOf at h
  cases hi : P.underlying t with
  | none => simp [hi] at h
  | some d => simp [hi] at h; subst h; cases d <;> simp [isAgg, underlying, hi]

theorem VR.cells_size {x : AV} {v : Value} (h : VR κ S w x v) (hx : x ≠ .raw) : v.cells.size = x.cells.length := by
  cases h <;> simp_all [Value.cells, AV.cells]

theorem VR.cells_at {x : AV} {v : Value} (h : VR κ S w x v) (hx : x ≠ .raw) : ∀ (j : Nat) (c : AV) (u : Value), x.cells[j]? = some c → v.cells[j]? = some u → VR κ S w c u := by
  intro j c u hc hu
  cases h with
  | agg h1 h2 h3 => exact h3 j c u hc hu
  | raw => exact absurd rfl hx
  | _ =>
    all_goals
      simp only [Value.cells, AV.cells] at hc hu
      have hj : j = 0 := by have := (List.getElem?_eq_some_iff.1 hc).1; simp at this; exact this
      subst hj
      simp at hc hu
      subst hc hu
      first
        | exact .bool _ | exact .int _ _ | exact .str _ | exact .nilptr | exact .ptr ‹_› | exact .vptr ‹_› ‹_› | exact .nils | exact .slice0
        | exact .slice ‹_› ‹_› ‹_› ‹_› ‹_› | exact .func ‹_› ‹_› ‹_› ‹_› | exact .nilFunc | exact .iface ‹_› | exact .nilIface | exact .tup ‹_› ‹_›

theorem VR.one {x : AV} {v : Value} (h : VR κ S w x v) (hx : x.one = true) : v.oneCell' = true := by
  cases h <;> first | rfl | (simp [AV.one] at hx)

theorem cav_sound (v : Value) : VR κ S w (cav v) v := by
  fun_cases cav v <;> first | exact .bool _ | exact .int _ _ | exact VR.str _ | exact .nilptr | exact .nils | exact .nilFunc | exact .nilIface | exact .func (by simp_all) (by simp_all) (by simp) (by simp) | exact .raw

theorem part_agg {t : TypeId} {cs : List AV} {arr : Array Value} {o z : Nat} (hz : szOf P t = some z) (ha : aggOf P t = some true) (hle : o + z ≤ cs.length)
    (hn : arr.size = cs.length) (h1 : ∀ c ∈ cs, c.one = true) (h : ∀ (j : Nat) (c : AV) (v : Value), cs[j]? = some c → arr[j]? = some v → VR κ S w c v) :
    ∃ v, (part t arr o).run P w = .ok v w ∧ VR κ S w (.agg ((cs.drop o).take z)) v := by
  refine ⟨.agg (arr.extract o (o + z)), ?_, .agg ?_ ?_ ?_⟩
  · simp [part, run_agg ha, run_size hz]
  · simp [hn]; omega
  · intro c hc
    exact h1 c (List.mem_of_mem_drop (List.mem_of_mem_take hc))
  · intro j c v hc hv
    have hj : j < z := by
      have := (List.getElem?_eq_some_iff.1 hc).1
      simp at this; omega
    rw [List.getElem?_take, if_pos hj, List.getElem?_drop] at hc
    rw [Array.getElem?_extract, if_pos (by omega)] at hv
    exact h _ c v hc hv

theorem part_one {t : TypeId} {cs : List AV} {arr : Array Value} {o : Nat} {c : AV} (ha : aggOf P t = some false) (hc : cs[o]? = some c)
    (hn : arr.size = cs.length) (h : ∀ (j : Nat) (c : AV) (v : Value), cs[j]? = some c → arr[j]? = some v → VR κ S w c v) :
    ∃ v, (part t arr o).run P w = .ok v w ∧ VR κ S w c v := by
  obtain ⟨v, hv, hr⟩ := VR.list hn h hc
  exact ⟨v, by simp [part, run_agg ha, hv], hr⟩

theorem fld_parts {t : TypeId} {f o z : Nat} {a : Bool} (h : fldOf P t f = some (o, z, a)) :
    ∃ (fs : Array Field) (g : Field), P.underlying t = some (.struct fs) ∧ fs[f]? = some g ∧ g.offset = o ∧ szOf P g.type = some z ∧ aggOf P g.type = some a := by
  unfold fldOf at h
  split at h
  · rename_i fs hfs
    split at h
    · rename_i g hg
      split at h
      · rename_i z' a' hz ha
        simp at h
        obtain ⟨h1, h2, h3⟩ := h
        exact ⟨fs, g, hfs, hg, h1, h2 ▸ hz, h3 ▸ ha⟩
      · cases h
    · cases h
  · cases h

theorem add_at (b off n : Nat) : (⟨b, off, none⟩ : Addr).add n = ⟨b, off + n, none⟩ := by
  unfold Addr.add
  split <;> simp_all

end
end Go.AW
end

section
namespace Go.AW
section
variable {P : Program} {κ : List Nat} {S F : Nat → Nat → Prop} {w : World}

theorem mk_append (l m : List UInt8) : ((⟨l.toArray⟩ : ByteArray) ++ ⟨m.toArray⟩) = ⟨(l ++ m).toArray⟩ := by
  apply ByteArray.ext
  simp

theorem mk_size (l : List UInt8) : (⟨l.toArray⟩ : ByteArray).size = l.length := rfl

theorem max_i64 : IntKind.i64.max = 9223372036854775807 := by decide

theorem binA_sound {op : BinOp} {t : TypeId} {x y z : AV} {a b : Value} (h : binA op x y = some z) (ha : VR κ S w x a) (hb : VR κ S w y b)
    (hi : (∃ k n k' m, x = .int k n ∧ y = .int k' m) ∨ (∃ l m, x = .str l ∧ y = .str m)) :
    ∃ v, (binOp op t a b).run P w = .ok v w ∧ VR κ S w z v := by
  rcases hi with ⟨k, n, k', m, rfl, rfl⟩ | ⟨l, m, rfl, rfl⟩
  · cases ha; cases hb
    cases op <;> simp only [binA] at h <;> (try split at h) <;> (try split at h) <;> first | (cases h; done) | skip
    all_goals (injection h with h; subst h)
    all_goals first
      | (refine ⟨_, ?_, .int _ _⟩; simp_all [binOp, Op.intArith, Op.intDiv, Op.intBits, Op.shift]; done)
      | (refine ⟨_, ?_, .int _ _⟩; simp only [binOp, Op.shift]; rw [if_neg ‹_›]; rfl)
      | (refine ⟨_, ?_, .bool _⟩; simp_all [binOp, Op.intCmp]; done)
  · cases ha; cases hb
    cases op <;> simp only [binA] at h <;> (try split at h) <;> first | (cases h; done) | skip
    all_goals (injection h with h; subst h)
    all_goals first
      | (refine ⟨.string ⟨(l ++ m).toArray⟩, ?_, .str _⟩
         have hs : ¬ (((⟨l.toArray⟩ : ByteArray).size + (⟨m.toArray⟩ : ByteArray).size : Nat) : Int) > IntKind.i64.max := by rw [max_i64, mk_size, mk_size]; omega
         simp only [binOp, Op.stringOp]
         rw [if_neg hs, mk_append]
         rfl)
      | (refine ⟨_, ?_, .bool _⟩; simp [binOp, Op.stringOp, ByteArray.toList_mk]; done)
      | (refine ⟨_, ?_, .bool _⟩; simp_all [binOp, Op.stringOp, toList_mk]; done)

end
end Go.AW
end

section
namespace Go.AW
section
variable {P : Program} {κ : List Nat} {S F : Nat → Nat → Prop} {w : World}

theorem zero_parts {t : TypeId} {z : List AV} (h : zeroOf P t = some z) : ∃ (i : TypeInfo) (v : Value), P.info? t = some i ∧ i.zero = some v ∧ z = v.cells.toList.map cav ∧ ∀ c ∈ z, c.one = true := by
  unfold zeroOf at h
  cases hi : P.info? t with
  | none => simp [hi] at h
  | some i =>
    cases hz : i.zero with
    | none => simp [hi, hz] at h
    | some v =>
      simp only [hi, hz, Option.bind_some] at h
      split at h
      · rename_i ho
        injection h with h
        exact ⟨i, v, rfl, hz, h.symm, by rw [← h]; exact List.all_eq_true.1 ho⟩
      · cases h

theorem run_zero {t : TypeId} {i : TypeInfo} {v : Value} (hi : P.info? t = some i) (hz : i.zero = some v) : (zeroValue t).run P w = .ok v w := by
  simp [zeroValue, typeInfo, hi, hz]

/-- Cells that stand for cells. -/
def VRl (κ : List Nat) (S : Nat → Nat → Prop) (w : World) (cs : List AV) (arr : Array Value) : Prop :=
  arr.size = cs.length ∧ ∀ (j : Nat) (c : AV) (v : Value), cs[j]? = some c → arr[j]? = some v → VR κ S w c v

theorem foldl_zip (off : Nat) (l : List Value) : ∀ (n : Nat) (cs : Array Value),
    ((l.zipIdx n).foldl (fun cs (p : Value × Nat) => cs.setIfInBounds (off + p.2) p.1) cs).size = cs.size ∧
    ∀ j, ((l.zipIdx n).foldl (fun cs (p : Value × Nat) => cs.setIfInBounds (off + p.2) p.1) cs)[j]? =
      if off + n ≤ j ∧ j < off + n + l.length ∧ j < cs.size then l[j - (off + n)]? else cs[j]? := by
  induction l with
  | nil => intro n cs; simp; intro j h1 h2; omega
  | cons v l ih =>
    intro n cs
    simp only [List.zipIdx_cons, List.foldl_cons]
    obtain ⟨h1, h2⟩ := ih (n + 1) (cs.setIfInBounds (off + n) v)
    refine ⟨by simpa using h1, fun j => ?_⟩
    rw [h2 j]
    simp only [Array.size_setIfInBounds, List.length_cons]
    by_cases hj : j = off + n
    · subst hj
      rw [if_neg (by omega)]
      by_cases hlt : off + n < cs.size
      · rw [if_pos (by omega)]
        simp [hlt]
      · rw [if_neg (by omega)]
        simp [hlt]
    · rw [Array.getElem?_setIfInBounds_ne (by omega)]
      by_cases hc : off + n + 1 ≤ j ∧ j < off + n + 1 + l.length ∧ j < cs.size
      · rw [if_pos (by omega), if_pos (by omega)]
        have : j - (off + n) = j - (off + (n + 1)) + 1 := by omega
        rw [this, List.getElem?_cons_succ]
      · rw [if_neg (by omega), if_neg (by omega)]

theorem zipIdx_foldl (off : Nat) (a cs : Array Value) : a.zipIdx.foldl (fun cs (c, j) => cs.setIfInBounds (off + j) c) cs =
    ((a.toList.zipIdx 0).foldl (fun cs (p : Value × Nat) => cs.setIfInBounds (off + p.2) p.1) cs) := by
  rw [← Array.foldl_toList]
  simp

theorem fillA_length (l : List (Nat × AV)) : ∀ (cs : List AV), (∀ p ∈ l, p.1 + p.2.cells.length ≤ cs.length) → (fillA l cs).length = cs.length := by
  induction l with
  | nil => intro cs _; rfl
  | cons p l ih =>
    intro cs h
    obtain ⟨o, v⟩ := p
    have h0 := h (o, v) (by simp)
    have hl : (cs.take o ++ v.cells ++ cs.drop (o + v.cells.length)).length = cs.length := by simp at h0 ⊢; omega
    rw [fillA, ih _ (fun p hp => by rw [hl]; exact h p (List.mem_cons_of_mem _ hp)), hl]

/-- A filling, step by step. -/
theorem fill_sound (place : Nat → Option (Nat × Nat)) : ∀ (ps : List (Nat × Value)) (qs : List (Nat × Nat × AV)) (cells : Array Value) (cs : List AV),
    ps.length = qs.length → VRl κ S w cs cells → (∀ c ∈ cs, c.one = true) → okFill cs.length qs = true →
    (∀ (j i : Nat) (v : Value) (o z : Nat) (x : AV), ps[j]? = some (i, v) → qs[j]? = some (o, z, x) → place i = some (o, z) ∧ VR κ S w x v) →
    ∃ cells', Instr.fill place cells ps = some cells' ∧ VRl κ S w (fillA (qs.map fun q => (q.1, q.2.2)) cs) cells' ∧ (∀ c ∈ fillA (qs.map fun q => (q.1, q.2.2)) cs, c.one = true) := by
  intro ps
  induction ps with
  | nil =>
    intro qs cells cs hl hv h1 _ _
    obtain rfl : qs = [] := by simpa using hl.symm
    exact ⟨cells, rfl, hv, h1⟩
  | cons p ps ih =>
    intro qs cells cs hl hv h1 hok hp
    obtain ⟨i, v⟩ := p
    cases qs with
    | nil => simp at hl
    | cons q qs =>
      obtain ⟨o, z, x⟩ := q
      obtain ⟨hpl, hx⟩ := hp 0 i v o z x (by simp) (by simp)
      simp only [okFill, Bool.and_eq_true, beq_iff_eq, decide_eq_true_eq, List.all_eq_true] at hok
      obtain ⟨⟨⟨hz, hoz⟩, hall⟩, hok⟩ := hok
      have hraw : x ≠ .raw := by
        intro hr
        subst hr
        have := hall .raw (by simp [AV.cells])
        simp [AV.one] at this
      have hsz := hx.cells_size hraw
      obtain ⟨hf1, hf2⟩ := foldl_zip o v.cells.toList 0 cells
      rw [← zipIdx_foldl] at hf1 hf2
      have hlen : (cs.take o ++ x.cells ++ cs.drop (o + x.cells.length)).length = cs.length := by simp; omega
      have hstep : VRl κ S w (cs.take o ++ x.cells ++ cs.drop (o + x.cells.length)) (v.cells.zipIdx.foldl (fun cs (c, j) => cs.setIfInBounds (o + j) c) cells) := by
        refine ⟨by rw [hf1, hlen, hv.1], fun j c u hc hu => ?_⟩
        rw [hf2 j] at hu
        simp only [Nat.add_zero, Array.length_toList] at hu
        rw [List.append_assoc, List.getElem?_append] at hc
        simp only [List.length_take] at hc
        by_cases hj1 : j < o
        · rw [if_pos (by omega), List.getElem?_take, if_pos hj1] at hc
          rw [if_neg (by omega)] at hu
          exact hv.2 j c u hc hu
        · rw [if_neg (by omega), List.getElem?_append] at hc
          by_cases hj2 : j < o + x.cells.length
          · rw [if_pos (by omega)] at hc
            rw [if_pos ⟨by omega, by omega, by rw [hv.1]; omega⟩] at hu
            have hm : min o cs.length = o := by omega
            rw [hm] at hc
            exact hx.cells_at hraw (j - o) c u hc (by simpa using hu)
          · rw [if_neg (by omega), List.getElem?_drop] at hc
            rw [if_neg (by omega)] at hu
            have hm : o + x.cells.length + (j - min o cs.length - x.cells.length) = j := by omega
            rw [hm] at hc
            exact hv.2 j c u hc hu
      have hone : ∀ c ∈ cs.take o ++ x.cells ++ cs.drop (o + x.cells.length), c.one = true := by
        intro c hc
        rcases List.mem_append.1 hc with hc | hc
        · rcases List.mem_append.1 hc with hc | hc
          · exact h1 c (List.mem_of_mem_take hc)
          · exact hall c hc
        · exact h1 c (List.mem_of_mem_drop hc)
      obtain ⟨cells', h2, h3, h4⟩ := ih qs _ _ (by simpa using hl) hstep hone (by rw [hlen]; exact hok) (fun j i v o z x ha hb => hp (j + 1) i v o z x (by simpa using ha) (by simpa using hb))
      refine ⟨cells', ?_, h3, h4⟩
      simp only [Instr.fill, hpl]
      rw [if_neg]
      · exact h2
      · simp only [Bool.or_eq_true, decide_eq_true_eq, ne_eq]
        rw [hv.1]
        omega

end
end Go.AW
end

section
namespace Go.AW
section
variable {P : Program} {κ : List Nat} {S F : Nat → Nat → Prop} {w : World} {ev : Operand → AV} {ρv : Operand → Value}

theorem zeroVRl {z : List AV} {v : Value} (hz : z = v.cells.toList.map cav) : VRl κ S w z v.cells := by
  subst hz
  refine ⟨by simp, fun j c u hc hu => ?_⟩
  rw [List.getElem?_map, Array.getElem?_toList, hu] at hc
  simp at hc
  subst hc
  exact cav_sound u

theorem laid_sound {place : Nat → Option (Nat × Nat)} {ps : List (Nat × Value)} {qs : List (Nat × Nat × AV)} {z cs : List AV} {cells : Array Value}
    (h : laidA z qs = some cs) (hl : ps.length = qs.length) (hv : VRl κ S w z cells) (h1 : ∀ c ∈ z, c.one = true)
    (hp : ∀ (j i : Nat) (v : Value) (o z : Nat) (x : AV), ps[j]? = some (i, v) → qs[j]? = some (o, z, x) → place i = some (o, z) ∧ VR κ S w x v) :
    ∃ cells', Instr.fill place cells ps = some cells' ∧ VRl κ S w cs cells' ∧ (∀ c ∈ cs, c.one = true) := by
  unfold laidA at h
  split at h
  · rename_i hok
    injection h with h
    subst h
    exact fill_sound place ps qs cells z hl hv h1 hok hp
  · cases h

theorem partsA_spec {pl : List (Nat × Nat)} : ∀ {parts : List (Nat × Operand)} {l : List (Nat × Nat × AV)}, partsA pl ev parts = some l →
    parts.length = l.length ∧ ∀ (j i : Nat) (x : Operand) (o z : Nat) (v : AV), parts[j]? = some (i, x) → l[j]? = some (o, z, v) → pl[i]? = some (o, z) ∧ v = ev x := by
  intro parts
  induction parts with
  | nil => intro l h; simp [partsA] at h; subst h; simp
  | cons p parts ih =>
    intro l h
    obtain ⟨i, x⟩ := p
    simp only [partsA] at h
    split at h
    · rename_i o n l' hpl hl'
      injection h with h
      subst h
      obtain ⟨h1, h2⟩ := ih hl'
      refine ⟨by simp [h1], fun j i' x' o' z' v' ha hb => ?_⟩
      cases j with
      | zero => simp at ha hb; obtain ⟨rfl, rfl⟩ := ha; obtain ⟨rfl, rfl, rfl⟩ := hb; exact ⟨hpl, rfl⟩
      | succ j => exact h2 j i' x' o' z' v' (by simpa using ha) (by simpa using hb)
    · cases h

theorem elemsA_spec {n : Nat} : ∀ (parts : List (Nat × Operand)), parts.length = (elemsA n ev parts).length ∧
    ∀ (j i : Nat) (x : Operand) (o z : Nat) (v : AV), parts[j]? = some (i, x) → (elemsA n ev parts)[j]? = some (o, z, v) → o = i * n ∧ z = n ∧ v = ev x := by
  intro parts
  induction parts with
  | nil => simp [elemsA]
  | cons p parts ih =>
    obtain ⟨i, x⟩ := p
    obtain ⟨h1, h2⟩ := ih
    refine ⟨by simp [elemsA, h1], fun j i' x' o' z' v' ha hb => ?_⟩
    cases j with
    | zero => simp [elemsA] at ha hb; obtain ⟨rfl, rfl⟩ := ha; obtain ⟨rfl, rfl, rfl⟩ := hb; exact ⟨rfl, rfl, rfl⟩
    | succ j => exact h2 j i' x' o' z' v' (by simpa using ha) (by simpa [elemsA] using hb)

theorem build_sound {t : TypeId} {parts : Array (Nat × Operand)} {v : AV} (h : pureA P (.build t parts) ev = some v) (hv : ∀ x, VR κ S w (ev x) (ρv x)) :
    ∃ v', (Instr.build t (parts.map fun (i, x) => (i, ρv x))).run P w = .ok v' w ∧ VR κ S w v v' := by
  simp only [pureA] at h
  split at h
  · rename_i fs z hu hz
    cases hpl : placesOf P t with
    | none => simp [hpl] at h
    | some pl =>
      cases hl : partsA pl ev parts.toList with
      | none => simp [hpl, hl] at h
      | some l =>
        cases hla : laidA z l with
        | none => simp [hpl, hl, hla] at h
        | some cs =>
          simp [hpl, hl, hla] at h
          subst h
          obtain ⟨i, zv, hi, hzv, hzz, hzo⟩ := zero_parts hz
          obtain ⟨h1, h2⟩ := partsA_spec hl
          obtain ⟨cells', hf, hr, ho⟩ := laid_sound (κ := κ) (S := S) (w := w) (place := fun i => pl.toArray[i]?) (ps := parts.toList.map fun (i, x) => (i, ρv x)) hla (by simpa using h1)
            (zeroVRl hzz) hzo (by
              intro j i' u o z' x ha hb
              rw [List.getElem?_map] at ha
              cases hj : parts.toList[j]? with
              | none => simp [hj] at ha
              | some p =>
                simp [hj] at ha
                obtain ⟨rfl, rfl⟩ := ha
                obtain ⟨e1, e2⟩ := h2 j p.1 p.2 o z' x (by simpa using hj) hb
                exact ⟨by simpa using e1, e2 ▸ hv _⟩)
          refine ⟨.agg cells', run_build w t _ cells' ?_, .agg hr.1 ho hr.2⟩
          unfold placesOf at hpl
          simp only [hu] at hpl
          simp only [Program.built, hi, hu, hzv, hpl]
          simpa using hf
  · rename_i n e z hu hz
    cases hsz : szOf P e with
    | none => simp [hsz] at h
    | some k =>
      cases hla : laidA z (elemsA k ev parts.toList) with
      | none => simp [hsz, hla] at h
      | some cs =>
        simp [hsz, hla] at h
        subst h
        obtain ⟨i, zv, hi, hzv, hzz, hzo⟩ := zero_parts hz
        obtain ⟨h1, h2⟩ := elemsA_spec (ev := ev) (n := k) parts.toList
        obtain ⟨cells', hf, hr, ho⟩ := laid_sound (κ := κ) (S := S) (w := w) (place := fun i => some (i * k, k)) (ps := parts.toList.map fun (i, x) => (i, ρv x)) hla (by simpa using h1)
          (zeroVRl hzz) hzo (by
            intro j i' u o z' x ha hb
            rw [List.getElem?_map] at ha
            cases hj : parts.toList[j]? with
            | none => simp [hj] at ha
            | some p =>
              simp [hj] at ha
              obtain ⟨rfl, rfl⟩ := ha
              obtain ⟨e1, e2, e3⟩ := h2 j p.1 p.2 o z' x (by simpa using hj) hb
              subst e1 e2 e3
              exact ⟨rfl, hv _⟩)
        refine ⟨.agg cells', run_build w t _ cells' ?_, .agg hr.1 ho hr.2⟩
        unfold szOf at hsz
        cases hie : P.info? e with
        | none => simp [hie] at hsz
        | some ie =>
          simp [hie] at hsz
          subst hsz
          simp only [Program.built, hi, hu, hzv, hie]
          simpa using hf
  · cases h

end
end Go.AW
end

section
namespace Go.AW
section
variable {P : Program} {κ : List Nat} {S F : Nat → Nat → Prop} {w : World} {ev : Operand → AV} {ρv : Operand → Value}

theorem fieldAddr_sound {t : TypeId} {x : Operand} {f : Nat} {v : AV} (h : pureA P (.fieldAddr t x f) ev = some v) (hv : VR κ S w (ev x) (ρv x)) :
    ∃ v', (Instr.fieldAt t (ρv x) f).run P w = .ok v' w ∧ VR κ S w v v' := by
  simp only [pureA] at h
  split at h
  · rename_i k off o z a hx hf
    split at h
    · cases h
    · rename_i hz
      injection h with h; subst h
      obtain ⟨fs, g, hu, hg, rfl, hsz, _⟩ := fld_parts hf
      rw [hx] at hv
      generalize ρv x = xv at hv
      cases hv with
      | ptr hk =>
        refine ⟨_, ?_, .ptr hk⟩
        simp [Instr.fieldAt, run_under hu, hg, Instr.sureAddr, fieldPlace, run_size hsz, hz, add_at]
  · rename_i cs o z a hx hf
    split at h
    · cases h
    · rename_i hz
      injection h with h; subst h
      obtain ⟨fs, g, hu, hg, rfl, hsz, _⟩ := fld_parts hf
      rw [hx] at hv
      generalize ρv x = xv at hv
      cases hv with
      | vptr hS hr =>
        rename_i b off
        refine ⟨.pointer (some ⟨b, off + g.offset, none⟩), ?_, .vptr (fun j c hc => ?_) (fun j c u hc hu' => ?_)⟩
        · simp [Instr.fieldAt, run_under hu, hg, Instr.sureAddr, fieldPlace, run_size hsz, hz, add_at]
        · rw [List.getElem?_drop] at hc
          have := hS _ c hc
          rwa [← Nat.add_assoc] at this
        · rw [List.getElem?_drop] at hc
          exact hr _ c u hc (by rwa [← Nat.add_assoc])
  · cases h

theorem field_sound {t : TypeId} {x : Operand} {f : Nat} {v : AV} (h : pureA P (.field t x f) ev = some v) (hv : VR κ S w (ev x) (ρv x)) :
    ∃ v', (Instr.field t (ρv x) f).run P w = .ok v' w ∧ VR κ S w v v' := by
  simp only [pureA] at h
  split at h
  · rename_i cs o z hx hf
    split at h
    · rename_i hle
      injection h with h; subst h
      obtain ⟨fs, g, hu, hg, rfl, hsz, hag⟩ := fld_parts hf
      rw [hx] at hv
      generalize ρv x = a at hv
      cases hv with
      | agg h1 h2 h3 =>
        obtain ⟨v', hr, hvr⟩ := part_agg (P := P) hsz hag hle h1 h2 h3
        exact ⟨v', by simp [Instr.field, run_under hu, hg, asAgg, hr], hvr⟩
    · cases h
  · rename_i cs o z hx hf
    obtain ⟨fs, g, hu, hg, rfl, hsz, hag⟩ := fld_parts hf
    rw [hx] at hv
    generalize ρv x = a at hv
    cases hv with
    | agg h1 h2 h3 =>
      obtain ⟨v', hr, hvr⟩ := part_one (P := P) hag h h1 h3
      exact ⟨v', by simp [Instr.field, run_under hu, hg, asAgg, hr], hvr⟩
  · cases h

theorem flatten_at {es : List (List AV)} {z i j : Nat} {e : List AV} {c : AV} (hz : ∀ x ∈ es, x.length = z) (he : es[i]? = some e) (hc : e[j]? = some c) :
    es.flatten[i * z + j]? = some c := by
  induction es generalizing i with
  | nil => simp at he
  | cons x es ih =>
    have hx : x.length = z := hz x (by simp)
    cases i with
    | zero =>
      simp at he; subst he
      have : j < x.length := (List.getElem?_eq_some_iff.1 hc).1
      rw [List.flatten_cons, List.getElem?_append, Nat.zero_mul, Nat.zero_add, if_pos this]
      exact hc
    | succ i =>
      rw [List.flatten_cons, List.getElem?_append, if_neg (by rw [hx, Nat.succ_mul]; omega)]
      have e1 : (i + 1) * z + j - x.length = i * z + j := by rw [hx, Nat.succ_mul]; omega
      rw [e1]
      exact ih (fun y hy => hz y (by simp [hy])) (by simpa using he)

theorem slice_elem {es : List (List AV)} {v : Value} {i : Nat} {e : List AV} {z : Nat} (h : VR κ S w (.slice es) v) (he : es[i]? = some e) (hz : e.length = z) :
    ∃ b off len cap, v = .slice (some ⟨b, off, none⟩) len cap ∧ i < len ∧ len = es.length ∧ VR κ S w (.vptr e) (.pointer (some ⟨b, off + i * z, none⟩)) := by
  cases h with
  | slice0 => simp at he
  | slice h1 h2 h3 hS hr =>
    rename_i z' b off len cap
    have hz' : z' = z := by rw [← h3 e (List.mem_of_getElem? he), hz]
    subst hz'
    refine ⟨b, off, len, cap, rfl, by rw [← h1]; exact (List.getElem?_eq_some_iff.1 he).1, h1.symm, .vptr (fun j c hc => ?_) (fun j c u hc hu => ?_)⟩
    · have := hS _ c (flatten_at h3 he hc)
      rwa [← Nat.add_assoc] at this
    · exact hr _ c u (flatten_at h3 he hc) (by rwa [← Nat.add_assoc])

theorem indexAddr_sound {t : TypeId} {x i : Operand} {v : AV} (h : pureA P (.indexAddr t x i) ev = some v) (hv : VR κ S w (ev x) (ρv x)) (hi : VR κ S w (ev i) (ρv i)) :
    ∃ v', (Instr.indexAt t (ρv x) (ρv i)).run P w = .ok v' w ∧ VR κ S w v v' := by
  simp only [pureA] at h
  split at h
  · rename_i es kk n e hx hn hu
    split at h
    · rename_i h0
      split at h
      · rename_i c z hc hz
        split at h
        · rename_i hcl
          injection h with h; subst h
          rw [hx] at hv; rw [hn] at hi
          obtain ⟨b, off, len, cap, hval, hlt, hle, hvp⟩ := slice_elem hv hc hcl
          generalize ρv i = iv at hi
          cases hi
          rw [hval]
          refine ⟨_, ?_, hvp⟩
          have hlt' : n < (len : Int) := by omega
          simp [Instr.indexAt, asIntOf, run_under hu, h0, hlt', run_size hz, add_at]
        · cases h
      · cases h
    · cases h
  · rename_i k off kk n len e hx hn hu
    split at h
    · rename_i h0
      cases hz : szOf P e with
      | none => simp [hz] at h
      | some z =>
        simp [hz] at h; subst h
        rw [hx] at hv; rw [hn] at hi
        generalize ρv i = iv at hi
        generalize ρv x = xv at hv
        cases hi
        cases hv with
        | ptr hk =>
          refine ⟨_, ?_, .ptr hk⟩
          simp [Instr.indexAt, asIntOf, run_under hu, Instr.sureAddr, h0, run_size hz, add_at]
    · cases h
  · cases h

theorem index_sound {t : TypeId} {x i : Operand} {v : AV} (h : pureA P (.index t x i) ev = some v) (hv : VR κ S w (ev x) (ρv x)) (hi : VR κ S w (ev i) (ρv i)) :
    ∃ v', (Instr.index t (ρv x) (ρv i)).run P w = .ok v' w ∧ VR κ S w v v' := by
  simp only [pureA] at h
  split at h
  · rename_i s kk n hx hn hu
    split at h
    · rename_i h0
      cases hb : s[n.toNat]? with
      | none => simp [hb] at h
      | some b =>
        simp [hb] at h; subst h
        rw [hx] at hv; rw [hn] at hi
        generalize ρv i = iv at hi
        generalize ρv x = xv at hv
        cases hi; cases hv
        have hlt := (List.getElem?_eq_some_iff.1 hb).1
        have hget : (⟨s.toArray⟩ : ByteArray)[n.toNat]? = some b := by
          have hlt' : n.toNat < (⟨s.toArray⟩ : ByteArray).size := hlt
          rw [getElem?_pos (⟨s.toArray⟩ : ByteArray) n.toNat hlt']
          have := (List.getElem?_eq_some_iff.1 hb).2
          exact congrArg some this
        refine ⟨_, ?_, .int _ _⟩
        simp [Instr.index, asIntOf, run_under hu, h0, hget]
    · cases h
  · rename_i cs kk n len e hx hn hu
    split at h
    · rename_i h0
      rw [hx] at hv; rw [hn] at hi
      generalize ρv i = iv at hi
      generalize ρv x = xv at hv
      cases hi
      cases hv with
      | agg h1 h2 h3 =>
        split at h
        · rename_i z hz ha
          split at h
          · rename_i hle
            injection h with h; subst h
            obtain ⟨v', hr, hvr⟩ := part_agg (P := P) (t := e) (o := n.toNat * z) hz ha (by rw [Nat.succ_mul] at hle; exact hle) h1 h2 h3
            exact ⟨v', by simp [Instr.index, asIntOf, run_under hu, h0, run_size hz, hr], hvr⟩
          · cases h
        · rename_i z hz ha
          obtain ⟨v', hr, hvr⟩ := part_one (P := P) ha h h1 h3
          exact ⟨v', by simp [Instr.index, asIntOf, run_under hu, h0, run_size hz, hr], hvr⟩
        · cases h
    · cases h
  · cases h

end
end Go.AW
end

section
namespace Go.AW
section
variable {P : Program} {κ : List Nat} {S F : Nat → Nat → Prop} {w : World} {ev : Operand → AV} {ρv : Operand → Value}

theorem take_extract (s : List UInt8) (l h : Nat) : (⟨s.toArray⟩ : ByteArray).extract l h = ⟨((s.take h).drop l).toArray⟩ := by
  apply ByteArray.ext
  apply Array.ext'
  rw [Lib.extract_data, List.drop_take]

theorem VR.slice_drop {es : List (List AV)} {z a b off len cap : Nat} (h : VR κ S w (.slice es) (.slice (some ⟨b, off, none⟩) len cap)) (ha : a ≤ es.length) (hz : ∀ e ∈ es, e.length = z) {n : Nat} (hn : a + n ≤ es.length) {cap' : Nat} (hc : n ≤ cap') :
    VR κ S w (.slice ((es.drop a).take n)) (.slice (some ⟨b, off + a * z, none⟩) n cap') := by
  by_cases hn0 : n = 0
  · subst hn0; simp; exact .slice0
  · cases h with
    | slice0 => simp at hn; omega
    | slice h1 h2 h3 hS hr =>
      rename_i z'
      have hz' : z' = z := by
        have h0 : 0 < es.length := by omega
        rw [← h3 es[0] (List.getElem_mem _), hz es[0] (List.getElem_mem _)]
      subst hz'
      have key : ∀ (j : Nat) (c : AV), ((es.drop a).take n).flatten[j]? = some c → es.flatten[a * z' + j]? = some c := by
        intro j c hc
        have e1 : es.flatten = (es.take a).flatten ++ (((es.drop a).take n).flatten ++ ((es.drop a).drop n).flatten) := by
          rw [← List.flatten_append, ← List.flatten_append, List.take_append_drop, List.take_append_drop]
        have e2 : (es.take a).flatten.length = a * z' := by
          have : ∀ (l : List (List AV)), (∀ e ∈ l, e.length = z') → l.flatten.length = l.length * z' := by
            intro l
            induction l with
            | nil => simp
            | cons x l ih =>
              intro hl
              rw [List.flatten_cons, List.length_append, ih (fun e he => hl e (List.mem_cons_of_mem _ he)), hl x (by simp), List.length_cons, Nat.succ_mul]
              omega
          rw [this _ (fun e he => h3 e (List.mem_of_mem_take he)), List.length_take, Nat.min_eq_left ha]
        rw [e1, List.getElem?_append, if_neg (by rw [e2]; omega), e2, Nat.add_sub_cancel_left]
        rw [List.getElem?_append, if_pos (List.getElem?_eq_some_iff.1 hc).1]
        exact hc
      refine .slice (sz := z') (by simp; omega) hc (fun e he => h3 e (List.mem_of_mem_drop (List.mem_of_mem_take he))) (fun j c hc' => ?_) (fun j c u hc' hu => ?_)
      · have := hS _ c (key j c hc')
        rwa [← Nat.add_assoc] at this
      · exact hr _ c u (key j c hc') (by rwa [← Nat.add_assoc])

theorem slice_parts {es : List (List AV)} {v : Value} (h : VR κ S w (.slice es) v) : ∃ base cap, v = .slice base es.length cap ∧ (es ≠ [] → ∃ b off, base = some ⟨b, off, none⟩ ∧ es.length ≤ cap) := by
  cases h with
  | slice0 => exact ⟨_, _, rfl, by simp⟩
  | slice h1 h2 h3 hS hr => subst h1; exact ⟨_, _, rfl, fun _ => ⟨_, _, rfl, h2⟩⟩

theorem VR.cap {es : List (List AV)} {base : Option Addr} {n cap : Nat} (h : VR κ S w (.slice es) (.slice base n cap)) : n = es.length := by
  cases h <;> simp_all

/-- A slice of a slice, between bounds that lie within its length. -/
theorem reslice {t e : TypeId} {es : List (List AV)} {v : Value} {lo hi : Option Value} {l h z : Nat} (hu : P.underlying t = some (.slice e)) (hz : szOf P e = some z) (hall : ∀ x ∈ es, x.length = z ∨ l = 0)
    (hv : VR κ S w (.slice es) v) (hlo : lo = none ∧ l = 0 ∨ ∃ k, lo = some (.int k l)) (hhi : hi = none ∧ h = es.length ∨ ∃ k, hi = some (.int k h)) (hl : l ≤ h) (hh : h ≤ es.length) :
    ∃ v', (Instr.sliceAt t v lo hi none).run P w = .ok v' w ∧ VR κ S w (.slice ((es.take h).drop l)) v' := by
  obtain ⟨base, cap, rfl, hb⟩ := slice_parts hv
  by_cases hne : es = []
  · subst hne
    obtain rfl : h = 0 := by simpa using hh
    obtain rfl : l = 0 := by omega
    refine ⟨.slice (if cap = 0 then base else base.map (·.add (0 * z))) (0 - 0) (cap - 0), ?_, by simp; exact .slice0⟩
    rcases hlo with ⟨rfl, _⟩ | ⟨k, rfl⟩ <;> rcases hhi with ⟨rfl, _⟩ | ⟨k', rfl⟩ <;>
      simp [Instr.sliceAt, run_under hu, Instr.slice, Instr.sliceBounds, Instr.sliceBound, asIntOf, run_size hz]
  · obtain ⟨b, off, rfl, hcap⟩ := hb hne
    have hbnd : (Instr.sliceBounds true es.length cap lo hi none).run P w = .ok (l, h, cap) w := by
      have h1 : h ≤ cap := by omega
      have hi1 : (h : Int) ≤ cap := by omega
      have hl1 : (l : Int) ≤ h := by omega
      rcases hlo with ⟨rfl, rfl⟩ | ⟨k, rfl⟩ <;> rcases hhi with ⟨rfl, rfl⟩ | ⟨k', rfl⟩ <;>
        simp [Instr.sliceBounds, Instr.sliceBound, asIntOf, h1, hl]
    have hall' : l = 0 ∨ ∀ x ∈ es, x.length = z := by
      by_cases h0 : l = 0
      · exact .inl h0
      · exact .inr fun x hx => (hall x hx).resolve_right h0
    refine ⟨.slice (some ⟨b, off + (if cap = l then 0 else l * z), none⟩) (h - l) (cap - l), ?_, ?_⟩
    · simp only [Instr.sliceAt, Sem.run_bind, run_under hu, Result.andThen_ok, Instr.slice, hbnd, run_size hz, Sem.run_pure]
      split
      · rfl
      · simp [add_at]
    · rw [List.drop_take]
      by_cases hc : cap = l
      · have : h - l = 0 := by omega
        rw [this]; simp; exact .slice0
      · rw [if_neg hc]
        rcases hall' with rfl | hall'
        · simp only [Nat.zero_mul, Nat.add_zero, List.drop_zero, Nat.sub_zero]
          cases hv with
          | slice0 => exact absurd rfl hne
          | slice h1 h2 h3 hS hr =>
            have := VR.slice_drop (a := 0) (n := h) (cap' := cap) (.slice h1 h2 h3 hS hr) (Nat.zero_le _) h3 (by omega) (by omega)
            simpa using this
        · exact VR.slice_drop hv (by omega) hall' (by omega) (by omega)

theorem slice_sound {t : TypeId} {x : Operand} {lo hi : Option Operand} {v : AV} (h : pureA P (.slice t x lo hi none) ev = some v) (hv : ∀ x, VR κ S w (ev x) (ρv x)) :
    ∃ v', (Instr.sliceAt t (ρv x) (lo.map ρv) (hi.map ρv) none).run P w = .ok v' w ∧ VR κ S w v v' := by
  have int : ∀ (o : Operand) k n, ev o = .int k n → ρv o = .int k n := by
    intro o k n he
    have := hv o
    rw [he] at this
    generalize ρv o = y at this
    cases this; rfl
  have str : ∀ (o : Operand) s, ev o = .str s → ρv o = .string ⟨s.toArray⟩ := by
    intro o k he
    have := hv o
    rw [he] at this
    generalize ρv o = y at this
    cases this; rfl
  simp only [pureA] at h
  split at h
  · rename_i s hx hu hlo hhi
    injection h with h; subst h
    cases lo <;> simp at hlo; cases hi <;> simp at hhi
    refine ⟨_, ?_, .str s⟩
    simp [str x s hx, Instr.sliceAt, run_under hu, Instr.slice, Instr.sliceBounds]
  · rename_i s k l hx hu hlo hhi
    split at h
    · rename_i hl
      injection h with h; subst h
      cases hi <;> simp at hhi
      cases lo with
      | none => simp at hlo
      | some o =>
        simp at hlo
        have e := take_extract s l.toNat s.length
        simp at e
        refine ⟨_, ?_, .str _⟩
        simp [str x s hx, int o k l hlo, Instr.sliceAt, run_under hu, Instr.slice, Instr.sliceBounds, Instr.sliceBound, asIntOf, mk_size, hl, e]
    · cases h
  · rename_i s k hh hx hu hlo hhi
    split at h
    · rename_i hl
      injection h with h; subst h
      cases lo <;> simp at hlo
      cases hi with
      | none => simp at hhi
      | some o =>
        simp at hhi
        have e := take_extract s 0 hh.toNat
        simp at e
        refine ⟨_, ?_, .str _⟩
        simp [str x s hx, int o k hh hhi, Instr.sliceAt, run_under hu, Instr.slice, Instr.sliceBounds, Instr.sliceBound, asIntOf, mk_size, hl, e]
    · cases h
  · rename_i s k l k' hh hx hu hlo hhi
    split at h
    · rename_i hl
      injection h with h; subst h
      cases hi with
      | none => simp at hhi
      | some o' =>
        cases lo with
        | none => simp at hlo
        | some o =>
          simp at hlo hhi
          have e := take_extract s l.toNat hh.toNat
          have h3 : 0 ≤ hh := by omega
          have h4 : max hh 0 = hh := by omega
          refine ⟨_, ?_, .str _⟩
          simp [str x s hx, int o k l hlo, int o' k' hh hhi, Instr.sliceAt, run_under hu, Instr.slice, Instr.sliceBounds, Instr.sliceBound, asIntOf, mk_size, hl, h3, h4, e]
    · cases h
  · rename_i s e hx hu hlo hhi
    cases hz : szOf P e with
    | none => simp [hz] at h
    | some z =>
      simp [hz] at h; subst h
      have hvx := hv x
      rw [hx] at hvx
      cases lo <;> simp at hlo; cases hi <;> simp at hhi
      have := reslice (l := 0) (h := s.length) hu hz (fun _ _ => .inr rfl) hvx (.inl ⟨rfl, rfl⟩) (.inl ⟨rfl, rfl⟩) (Nat.zero_le _) (Nat.le_refl _)
      simpa using this
  · rename_i s e k l hx hu hlo hhi
    split at h
    · rename_i hl
      split at h
      · rename_i z hz
        split at h
        · rename_i hall
          injection h with h; subst h
          have hvx := hv x
          rw [hx] at hvx
          cases hi <;> simp at hhi
          cases lo with
          | none => simp at hlo
          | some o =>
            simp at hlo
            have := reslice (l := l.toNat) (h := s.length) (lo := some (ρv o)) hu hz (fun y hy => .inl (by simpa using List.all_eq_true.1 hall y hy)) hvx (.inr ⟨k, by rw [int o k l hlo, Int.toNat_of_nonneg (by omega)]⟩) (.inl ⟨rfl, rfl⟩) (by omega) (Nat.le_refl _)
            simpa using this
        · cases h
      · cases h
    · cases h
  · rename_i s e k hh hx hu hlo hhi
    cases hz : szOf P e with
    | none => simp [hz] at h
    | some z =>
      simp only [hz] at h
      split at h
      · rename_i hl
        injection h with h; subst h
        have hvx := hv x
        rw [hx] at hvx
        cases lo <;> simp at hlo
        cases hi with
        | none => simp at hhi
        | some o =>
          simp at hhi
          have := reslice (l := 0) (h := hh.toNat) (hi := some (ρv o)) hu hz (fun y hy => .inr rfl) hvx (.inl ⟨rfl, rfl⟩) (.inr ⟨k, by rw [int o k hh hhi, Int.toNat_of_nonneg (by omega)]⟩) (by omega) (by omega)
          simpa using this
      · cases h
  · rename_i s e k l k' hh hx hu hlo hhi
    split at h
    · rename_i hl
      split at h
      · rename_i z hz
        split at h
        · rename_i hall
          injection h with h; subst h
          have hvx := hv x
          rw [hx] at hvx
          cases hi with
          | none => simp at hhi
          | some o' =>
            cases lo with
            | none => simp at hlo
            | some o =>
              simp at hlo hhi
              exact reslice (l := l.toNat) (h := hh.toNat) (lo := some (ρv o)) (hi := some (ρv o')) hu hz (fun y hy => .inl (by simpa using List.all_eq_true.1 hall y hy)) hvx (.inr ⟨k, by rw [int o k l hlo, Int.toNat_of_nonneg (by omega)]⟩) (.inr ⟨k', by rw [int o' k' hh hhi, Int.toNat_of_nonneg (by omega)]⟩) (by omega) (by omega)
        · cases h
      · cases h
    · cases h
  · cases h

end
end Go.AW
end

section
namespace Go.AW
section
variable {P : Program} {κ : List Nat} {S F : Nat → Nat → Prop} {w : World} {ev : Operand → AV} {ρv : Operand → Value}

theorem guard_ok {op : BinOp} {t : TypeId} {x y : Operand} {a b : Value} (h : a ≠ .nilIface ∨ b ≠ .nilIface ∨ (∃ v, x = .const v) ∨ ∃ v, y = .const v) (h2 : ∀ cs, a ≠ .agg cs) :
    (eqGuard op t x y a b).run P w = .ok () w := by
  have h2' : ∀ cs, a = .agg cs → False := fun cs e => h2 cs e
  clear h2
  rcases h with h | h | ⟨v, rfl⟩ | ⟨v, rfl⟩ <;> cases op <;> (try rfl) <;> cases a <;> (try rfl) <;> cases b <;>
    first | rfl | exact absurd rfl h | exact (h2' _ rfl).elim | simp [eqGuard]

theorem eqIface1 {t : TypeId} {ms : Array (String × TypeId)} (hu : P.underlying t = some (.interface ms)) (d : Nat) : (Op.equalIn (d + 1) t .nilIface .nilIface).run P w = .ok true w := by
  simp [Op.equalIn, run_under hu]
theorem eqIface2 {t u : TypeId} {v : Value} {ms : Array (String × TypeId)} (hu : P.underlying t = some (.interface ms)) (d : Nat) : (Op.equalIn (d + 1) t (.iface u v) .nilIface).run P w = .ok false w := by
  simp [Op.equalIn, run_under hu]
theorem eqPtr1 {t e : TypeId} (hu : P.underlying t = some (.pointer e)) {b : Option Addr} (d : Nat) : (Op.equalIn (d + 1) t (.pointer none) (.pointer b)).run P w = .ok b.isNone w := by
  simp [Op.equalIn, run_under hu]
theorem eqPtr2 {t e : TypeId} (hu : P.underlying t = some (.pointer e)) {a : Addr} (d : Nat) : (Op.equalIn (d + 1) t (.pointer (some a)) (.pointer none)).run P w = .ok false w := by
  simp [Op.equalIn, run_under hu]
theorem eqBool {t : TypeId} (hu : P.underlying t = some .bool) {a b : Bool} (d : Nat) : (Op.equalIn (d + 1) t (.bool a) (.bool b)).run P w = .ok (a == b) w := by
  simp [Op.equalIn, run_under hu]

theorem binOp_eq {op : BinOp} {t : TypeId} {a b : Value} {r : Bool} (h : (Op.equalIn (9999 + 1) t a b).run P w = .ok r w)
    (hk : (∃ x y, a = .bool x ∧ b = .bool y) ∨ (a = .nilIface ∧ b = .nilIface) ∨ (∃ u x, a = .iface u x ∧ b = .nilIface) ∨ ∃ x y, a = .pointer x ∧ b = .pointer y) :
    (op = .eql → (binOp op t a b).run P w = .ok (.bool r) w) ∧ (op = .neq → (binOp op t a b).run P w = .ok (.bool (!r)) w) := by
  have h' : (Op.equal t a b).run P w = .ok r w := h
  rcases hk with ⟨x, y, rfl, rfl⟩ | ⟨rfl, rfl⟩ | ⟨u, x, rfl, rfl⟩ | ⟨x, y, rfl, rfl⟩ <;> refine ⟨?_, ?_⟩ <;> rintro rfl <;> simp [binOp, h']

theorem binOp_sound {op : BinOp} {t t' : TypeId} {x y : Operand} {v : AV} (h : pureA P (.binOp op t x y t') ev = some v) (hv : ∀ x, VR κ S w (ev x) (ρv x)) (hc : ∀ v, ρv (.const v) = v) :
    ∃ v', (do eqGuard op t x y (ρv x) (ρv y); binOp op t (ρv x) (ρv y) : Sem Value).run P w = .ok v' w ∧ VR κ S w v v' := by
  have hx := hv x
  have hy := hv y
  simp only [pureA] at h
  split at h
  · rename_i hu
    split at h
    · rename_i a b ha hb
      injection h with h; subst h
      rw [ha] at hx; rw [hb] at hy
      generalize ρv x = xv at hx; generalize ρv y = yv at hy
      cases hx; cases hy
      exact ⟨_, by rw [Sem.run_bind, guard_ok (.inl (by simp)) (by simp)]; exact (binOp_eq (eqBool hu 9999) (.inl ⟨_, _, rfl, rfl⟩)).1 rfl, .bool _⟩
    · rename_i a b ha hb
      injection h with h; subst h
      rw [ha] at hx; rw [hb] at hy
      generalize ρv x = xv at hx; generalize ρv y = yv at hy
      cases hx; cases hy
      exact ⟨_, by rw [Sem.run_bind, guard_ok (.inl (by simp)) (by simp)]; exact (binOp_eq (eqBool hu 9999) (.inl ⟨_, _, rfl, rfl⟩)).2 rfl, .bool _⟩
    · cases h
  · rename_i ms hu
    split at h
    · rw [hc] at hy ⊢
      generalize ev x = xa at *
      generalize ρv x = xv at hx
      cases op <;> cases xa <;> simp only [ifaceA] at h <;> first | (cases h; done) | skip
      all_goals
        injection h with h; subst h
        cases hx
        refine ⟨_, ?_, .bool _⟩
        rw [Sem.run_bind, guard_ok (.inr (.inr (.inr ⟨_, rfl⟩))) (by simp)]
        first
          | exact (binOp_eq (eqIface1 hu 9999) (.inr (.inl ⟨rfl, rfl⟩))).1 rfl
          | exact (binOp_eq (eqIface1 hu 9999) (.inr (.inl ⟨rfl, rfl⟩))).2 rfl
          | exact (binOp_eq (eqIface2 hu 9999) (.inr (.inr (.inl ⟨_, _, rfl, rfl⟩)))).1 rfl
          | exact (binOp_eq (eqIface2 hu 9999) (.inr (.inr (.inl ⟨_, _, rfl, rfl⟩)))).2 rfl
    · cases h
  · rename_i e hu
    generalize ev x = xa at *
    generalize ev y = ya at *
    generalize ρv x = xv at hx
    generalize ρv y = yv at hy
    cases op <;> cases xa <;> cases ya <;> simp only [ptrA] at h <;> first | (cases h; done) | skip
    all_goals
      injection h with h; subst h
      cases hx; cases hy
      refine ⟨_, ?_, .bool _⟩
      rw [Sem.run_bind, guard_ok (.inl (by simp)) (by simp)]
      first
        | exact (binOp_eq (eqPtr1 hu 9999) (.inr (.inr (.inr ⟨_, _, rfl, rfl⟩)))).1 rfl
        | exact (binOp_eq (eqPtr1 hu 9999) (.inr (.inr (.inr ⟨_, _, rfl, rfl⟩)))).2 rfl
        | exact (binOp_eq (eqPtr2 hu 9999) (.inr (.inr (.inr ⟨_, _, rfl, rfl⟩)))).1 rfl
        | exact (binOp_eq (eqPtr2 hu 9999) (.inr (.inr (.inr ⟨_, _, rfl, rfl⟩)))).2 rfl
  all_goals first
    | (cases h; done)
    | (split at h <;> first | (cases h; done) | skip
       all_goals
         rename_i ha hb
         rw [ha] at hx; rw [hb] at hy
         generalize ρv x = xv at hx
         generalize ρv y = yv at hy
         have hn : xv ≠ .nilIface ∧ ∀ cs, xv ≠ .agg cs := by cases hx <;> simp
         obtain ⟨v', hr, hvr⟩ := binA_sound (P := P) (t := t) h hx hy (by first | exact .inl ⟨_, _, _, _, rfl, rfl⟩ | exact .inr ⟨_, _, rfl, rfl⟩)
         exact ⟨v', by rw [Sem.run_bind, guard_ok (.inl hn.1) hn.2]; exact hr, hvr⟩)

end
end Go.AW
end

section
namespace Go.AW
section
variable {P : Program} {κ : List Nat} {S F : Nat → Nat → Prop} {w : World} {ev : Operand → AV} {ρv : Operand → Value}

theorem unOp_sound {op : UnOp} {x : AV} {a : Value} {v : AV} (h : unA op x = some v) (hx : VR κ S w x a) : ∃ v', (Op.unary op a).run P w = .ok v' w ∧ VR κ S w v v' := by
  cases op <;> cases x <;> simp only [unA] at h <;> first | (cases h; done) | skip
  all_goals
    injection h with h; subst h
    cases hx
    first
      | exact ⟨_, rfl, .bool _⟩
      | exact ⟨_, rfl, .int _ _⟩

theorem bytesA_spec : ∀ {es : List (List AV)} {bs : List UInt8}, bytesA es = some bs → ∃ ns : List Int, es = ns.map (fun n => [AV.int .u8 n]) ∧ bs = ns.map fun n => UInt8.ofNat n.toNat := by
  intro es
  induction es with
  | nil => intro bs h; simp [bytesA] at h; subst h; exact ⟨[], rfl, rfl⟩
  | cons e es ih =>
    intro bs h
    unfold bytesA at h
    split at h
    · rename_i hnil; cases hnil
    · rename_i n r heq
      injection heq with h1 h2
      subst h1 h2
      cases hb : bytesA es with
      | none => simp [hb] at h
      | some l =>
        simp [hb] at h; subst h
        obtain ⟨ns, rfl, rfl⟩ := ih hb
        exact ⟨n :: ns, rfl, rfl⟩
    · cases h

theorem push_bytes (ns : List Int) : ∀ (acc : List UInt8), ns.foldl (fun r n => r.push (UInt8.ofNat n.toNat)) (⟨acc.toArray⟩ : ByteArray) = ⟨(acc ++ ns.map fun n => UInt8.ofNat n.toNat).toArray⟩ := by
  induction ns with
  | nil => intro acc; simp
  | cons n ns ih =>
    intro acc
    have : (⟨acc.toArray⟩ : ByteArray).push (UInt8.ofNat n.toNat) = ⟨(acc ++ [UInt8.ofNat n.toNat]).toArray⟩ := by
      apply ByteArray.ext
      simp [ByteArray.push]
    rw [List.foldl_cons, this, ih]
    simp

theorem convert_bytes_sound {src e dst : TypeId} {es : List (List AV)} {bs : List UInt8} {v : Value} (hs : P.underlying src = some (.slice e)) (he : P.underlying e = some (.int .u8)) (hd : P.underlying dst = some .string)
    (hb : bytesA es = some bs) (hv : VR κ S w (.slice es) v) : (convert src dst v).run P w = .ok (.string ⟨bs.toArray⟩) w := by
  obtain ⟨ns, hes, rfl⟩ := bytesA_spec hb
  cases hv with
  | slice0 =>
    rename_i base cap
    have hn : ns = [] := by simpa using hes.symm
    subst hn
    cases base with
    | none => exact run_convert_bytes_nil w src e hs he 0 cap dst hd
    | some a =>
      rw [run_convert_bytes_string w src dst e _ 0 cap hs he hd, run_bytesToString w a 0 cap [] (by simp [loadCells, loadCellsFrom])]
      rfl
  | slice h1 h2 h3 hS hr =>
    rename_i sz b off len cap
    subst hes
    have hlen : ns.length = len := by simpa using h1
    have hfl : (ns.map (fun n => [AV.int .u8 n])).flatten = ns.map (fun n => AV.int .u8 n) := by
      clear hS hr h1 h2 h3 hb hlen
      induction ns with
      | nil => rfl
      | cons n ns ih => simp [ih]
    rw [hfl] at hS hr
    rw [run_convert_bytes_arg w src e hs he b off len cap ns hlen (fun i hi => ?_) dst hd]
    · congr 2
    · have hj : (ns.map (fun n => AV.int .u8 n))[i]? = some (.int .u8 (ns.getD i 0)) := by
        have : i < ns.length := by omega
        simp [List.getD, this]
      obtain ⟨h4, h5, h6⟩ := hS i _ hj
      obtain ⟨u, hu⟩ := Option.isSome_iff_exists.1 h6
      have := hr i _ u hj hu
      cases this
      exact hu

theorem convert_sound {src dst : TypeId} {x : Operand} {v : AV} (h : pureA P (.convert src dst x) ev = some v) (hv : VR κ S w (ev x) (ρv x)) :
    ∃ v', (convert src dst (ρv x)).run P w = .ok v' w ∧ VR κ S w v v' := by
  simp only [pureA] at h
  generalize ρv x = xv at hv
  split at h
  · rename_i k0 k kk n hs hd hx
    injection h with h; subst h
    rw [hx] at hv
    cases hv
    exact ⟨_, by simp [convert, run_under hs, run_under hd, Conv.intToInt], .int _ _⟩
  · rename_i s hs hd hx
    injection h with h; subst h
    rw [hx] at hv
    cases hv
    exact ⟨_, by simp [convert, run_under hs, run_under hd], .str _⟩
  · rename_i e es hs hd hx
    rw [hx] at hv
    split at h
    · rename_i he
      cases hb : bytesA es with
      | none => simp [hb] at h
      | some bs =>
        simp [hb] at h; subst h
        exact ⟨_, convert_bytes_sound hs he hd hb hv, .str _⟩
    · cases h
  · rename_i e hs hd hx
    rw [hx] at hv
    split at h
    · rename_i he
      injection h with h; subst h
      cases hv
      exact ⟨_, run_convert_bytes_nil w src e hs he 0 0 dst hd, VR.str []⟩
    · cases h
  · cases h

theorem len_sound {t : TypeId} {x v : AV} {a : Value} (h : lenA (P.underlying t) x = some v) (hv : VR κ S w x a) (ty : TypeId) :
    ∃ v', (Builtin.len_ #[t] ty #[a]).run P w = .ok v' w ∧ VR κ S w v v' := by
  unfold lenA at h
  split at h
  · rename_i s hu
    injection h with h; subst h
    cases hv
    exact ⟨_, by simp [Builtin.len_, run_under hu, goInt, mk_size], .int _ _⟩
  · rename_i e es hu
    injection h with h; subst h
    obtain ⟨base, cap, rfl, _⟩ := slice_parts hv
    exact ⟨_, by simp [Builtin.len_, run_under hu, goInt], .int _ _⟩
  · rename_i e hu
    injection h with h; subst h
    cases hv
    exact ⟨_, by simp [Builtin.len_, run_under hu, goInt], .int _ _⟩
  · rename_i hu
    injection h with h; subst h
    exact ⟨_, by simp [Builtin.len_, run_under hu, goInt], .int _ _⟩
  · cases h

theorem min_sound {x y v : AV} {a b : Value} (h : minA x y = some v) (hx : VR κ S w x a) (hy : VR κ S w y b) (ts : Array TypeId) (ty : TypeId) :
    ∃ v', (Builtin.min_ ts ty #[a, b]).run P w = .ok v' w ∧ VR κ S w v v' := by
  unfold minA at h
  split at h
  · injection h with h; subst h
    cases hx; cases hy
    exact ⟨_, by simp [Builtin.min_, Builtin.min2], .int _ _⟩
  · cases h

theorem max_sound {x y v : AV} {a b : Value} (h : maxA x y = some v) (hx : VR κ S w x a) (hy : VR κ S w y b) (ts : Array TypeId) (ty : TypeId) :
    ∃ v', (Builtin.max_ ts ty #[a, b]).run P w = .ok v' w ∧ VR κ S w v v' := by
  unfold maxA at h
  split at h
  · injection h with h; subst h
    cases hx; cases hy
    exact ⟨_, by simp [Builtin.max_, Builtin.max2], .int _ _⟩
  · cases h

end
end Go.AW
end

section
namespace Go.AW
section
variable {P : Program} {κ : List Nat} {S F : Nat → Nat → Prop} {w : World} {ev : Operand → AV} {ρv : Operand → Value}

theorem makeInterface_sound {t : TypeId} {x : Operand} {v : AV} (h : pureA P (.makeInterface t x) ev = some v) (hv : VR κ S w (ev x) (ρv x)) :
    ∃ v', (Instr.makeInterface t (ρv x)).run P w = .ok v' w ∧ VR κ S w v v' := by
  simp only [pureA] at h
  split at h
  · cases h
  · cases h
  · rename_i h1 h2
    injection h with h; subst h
    refine ⟨_, run_makeInterface w t (ρv x) ?_, .iface hv⟩
    unfold Program.concrete
    cases hu : P.underlying t with
    | none => exact absurd hu h2
    | some d => cases d <;> first | rfl | exact absurd hu (h1 _)

theorem makeFunc_sound {f : FuncId} {fst cap : Array Operand} {v : AV} (h : pureA P (.makeFunc (.func f) fst cap) ev = some v) (hv : ∀ x, VR κ S w (ev x) (ρv x)) :
    VR κ S w v (.func (.func f) (fst.map ρv) (cap.map ρv)) := by
  simp only [pureA] at h
  injection h with h; subst h
  refine .func (by simp) (by simp) (fun j c v hc hv' => ?_) (fun j c v hc hv' => ?_)
  · rw [List.getElem?_map, Array.getElem?_toList] at hc
    rw [Array.getElem?_map] at hv'
    cases hj : fst[j]? with
    | none => simp [hj] at hc
    | some x => simp [hj] at hc hv'; subst hc hv'; exact hv x
  · rw [List.getElem?_map, Array.getElem?_toList] at hc
    rw [Array.getElem?_map] at hv'
    cases hj : cap[j]? with
    | none => simp [hj] at hc
    | some x => simp [hj] at hc hv'; subst hc hv'; exact hv x

theorem typeAssert_sound {x : Operand} {xt t : TypeId} {ok : Bool} {v : AV} (h : pureA P (.typeAssert x xt t ok) ev = some v) (hv : VR κ S w (ev x) (ρv x)) :
    ∃ v', (Instr.typeAssert (ρv x) xt t ok).run P w = .ok v' w ∧ VR κ S w v v' := by
  simp only [pureA] at h
  generalize ρv x = xv at hv
  split at h
  · rename_i t' u d hx hu
    rw [hx] at hv
    cases hv with
    | iface hi =>
      rename_i v'
      split at h
      · cases h
      · rename_i hni
        split at h
        · rename_i ht
          injection h with h; subst h
          subst ht
          cases ok
          · refine ⟨v', ?_, by simpa using hi⟩
            cases d <;> first | exact absurd rfl (hni _) | simp [Instr.typeAssert, run_under hu]
          · refine ⟨.tuple #[v', .bool true], ?_, ?_⟩
            · cases d <;> first | exact absurd rfl (hni _) | simp [Instr.typeAssert, run_under hu]
            · simp only [if_true]
              refine .tup (by simp) (fun j c u hc hu' => ?_)
              match j, hc, hu' with
              | 0, hc, hu' => simp at hc hu'; subst hc hu'; exact hi
              | 1, hc, hu' => simp at hc hu'; subst hc hu'; exact .bool _
              | j + 2, hc, _ => simp at hc
        · cases h
  · cases h

/-- An operation that only reckons: it runs, and its value fits. -/
theorem pure_sound {o : Oper} {v : AV} (h : pureA P o.op ev = some v) (hv : ∀ x, VR κ S w (ev x) (ρv x)) (hc : ∀ v, ρv (.const v) = v) :
    ∃ v', (execOp ρv o).run P w = .ok (.value v') w ∧ VR κ S w v v' := by
  obtain ⟨dst, op, type, pos, after, guard⟩ := o
  have wrap : ∀ {s : Sem Value}, (∃ v', s.run P w = .ok v' w ∧ VR κ S w v v') → ∃ v', (do pure (.value (← s)) : Sem Next).run P w = .ok (.value v') w ∧ VR κ S w v v' := by
    rintro s ⟨v', hr, hvr⟩
    exact ⟨v', by simp [hr], hvr⟩
  cases op with
  | move x => simp only [pureA] at h; injection h with h; subst h; exact ⟨ρv x, rfl, hv x⟩
  | assign x => simp only [pureA] at h; injection h with h; subst h; exact ⟨ρv x, rfl, hv x⟩
  | pick c a b =>
    simp only [pureA] at h
    split at h
    · rename_i t ht
      injection h with h; subst h
      have hcv := hv c
      rw [ht] at hcv
      generalize hcc : ρv c = cv at hcv
      cases hcv
      cases t
      · exact ⟨ρv b, by simp [execOp, hcc, asBool], hv b⟩
      · exact ⟨ρv a, by simp [execOp, hcc, asBool], hv a⟩
    · cases h
  | build t parts => exact wrap (build_sound h hv)
  | fieldAddr t x f => exact wrap (fieldAddr_sound h (hv x))
  | field t x f => exact wrap (field_sound h (hv x))
  | indexAddr t x i => exact wrap (indexAddr_sound h (hv x) (hv i))
  | index t x i => exact wrap (index_sound h (hv x) (hv i))
  | slice t x lo hi mx =>
    cases mx with
    | none => exact wrap (slice_sound h hv)
    | some m => simp [pureA] at h
  | binOp op t x y t' =>
    obtain ⟨v', hr, hvr⟩ := binOp_sound h hv hc
    exact wrap (s := do eqGuard op t x y (ρv x) (ρv y); binOp op t (ρv x) (ρv y)) ⟨v', hr, hvr⟩
  | unOp op t x => exact wrap (unOp_sound h (hv x))
  | convert src dst x => exact wrap (convert_sound h (hv x))
  | makeInterface t x => exact wrap (makeInterface_sound h (hv x))
  | makeFunc fn fst cap =>
    cases fn with
    | func f => exact ⟨_, rfl, makeFunc_sound h hv⟩
    | _ => simp [pureA] at h
  | extract x i =>
    simp only [pureA] at h
    have hx := hv x
    generalize hxx : ρv x = xv at hx
    split at h
    · rename_i vs hvs
      rw [hvs] at hx
      cases hx with
      | tup h1 h2 =>
        obtain ⟨u, hu, hr⟩ := VR.list h1 h2 h
        exact ⟨u, by simp [execOp, Instr.extract, hxx, hu], hr⟩
    · cases h
  | nilCheck x =>
    simp only [pureA] at h
    have hx := hv x
    generalize hxx : ρv x = xv at hx
    split at h
    · rename_i k off he
      injection h with h; subst h
      rw [he] at hx
      cases hx with
      | ptr hk => exact ⟨_, by simp only [execOp, hxx]; rfl, .ptr hk⟩
    · rename_i cs he
      injection h with h; subst h
      rw [he] at hx
      cases hx with
      | vptr h1 h2 => exact ⟨_, by simp only [execOp, hxx]; rfl, .vptr h1 h2⟩
    · cases h
  | typeAssert x xt t ok => exact wrap (typeAssert_sound h (hv x))
  | call c =>
    obtain ⟨callee, args, argTypes⟩ := c
    obtain ⟨args⟩ := args
    obtain ⟨argTypes⟩ := argTypes
    simp only [pureA] at h
    split at h
    · rename_i x t
      obtain ⟨v', hr, hvr⟩ := len_sound h (hv x) type
      exact ⟨v', by simp [execOp, resolve, invoke, builtin, hr], hvr⟩
    · rename_i x y
      obtain ⟨v', hr, hvr⟩ := min_sound (P := P) h (hv x) (hv y) ⟨argTypes⟩ type
      exact ⟨v', by simp [execOp, resolve, invoke, builtin, hr], hvr⟩
    · rename_i x y
      obtain ⟨v', hr, hvr⟩ := max_sound (P := P) h (hv x) (hv y) ⟨argTypes⟩ type
      exact ⟨v', by simp [execOp, resolve, invoke, builtin, hr], hvr⟩
    · cases h
  | _ => simp [pureA] at h

end
end Go.AW
end
