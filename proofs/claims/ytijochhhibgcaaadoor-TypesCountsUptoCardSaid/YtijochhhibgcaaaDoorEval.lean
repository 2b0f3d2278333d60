/- The abstract walk: the rules by which code is walked. -/
import Derived.Test.YtijochhhibgcaaaDoorAwCode
namespace Go.AW

/-- The operations of a region that does not draw, one behind the other. -/
def al (P : Program) (ops : Array Oper) (Q : AExit → ASt → Prop) : List Oper → ASt → Prop
  | [], s => Q .normal s
  | o :: rest, s => match gateA ops s o with
      | some g => if g = true then aop P o s (al P ops Q rest) Q else al P ops Q rest (s.put o.dst (.tup []))
      | none => False

theorem aops_al (P : Program) (ops : Array Oper) (Q : AExit → ASt → Prop) : ∀ (l : List Oper) (i : Nat) (s : ASt), (∀ j, j < l.length → ops[i + j]? = l[j]?) → aops P ops Q (List.range' i l.length) s = al P ops Q l s := by
  intro l
  induction l with
  | nil => intro i s _; rfl
  | cons o rest ih =>
    intro i s h
    have h0 := h 0 (by simp)
    simp only [Nat.add_zero, List.getElem?_cons_zero] at h0
    have ih' : ∀ s, aops P ops Q (List.range' (i + 1) rest.length) s = al P ops Q rest s := fun s => ih (i + 1) s (fun j hj => by have := h (j + 1) (by simpa using hj); rw [List.getElem?_cons_succ] at this; rw [← this]; congr 1; omega)
    rw [List.length_cons, List.range'_succ]
    simp only [aops, h0, al]
    have hfun : aops P ops Q (List.range' (i + 1) rest.length) = al P ops Q rest := funext ih'
    rw [hfun]
    rfl

/-- The code's walk, behind a name that does not open. -/
@[irreducible] def ac (P : Program) (n0 : Nat) (c : Code) (Q : AExit → ASt → Prop) (s : ASt) : Prop := acode P n0 c Q s

section
variable {P : Program} {n0 : Nat} {Q : AExit → ASt → Prop} {s : ASt}

theorem ac_eq (c : Code) : ac P n0 c Q s = acode P n0 c Q s := by unfold ac; rfl

theorem of_body {f : FuncId} {fn : Func} {c : Code} {args : List AV} {h : AHeap} {R : AEnd → AHeap → Prop} (hf : P.funcs[f]? = some fn) (hb : fn.body = some c) (hbel : below fn.ntmps c = true) (hargs : args.length ≤ fn.ntmps)
    (hbody : Closed h → (∀ x ∈ args, Bel h.blocks.length x) → ac P h.blocks.length c (abodyPost P fn.results.toList h.blocks.length R) (ASt.enter args h)) : ACalls P f args h R :=
  ACalls.of_body hf hb hbel hargs fun h1 h2 => by have := hbody h1 h2; rwa [ac_eq] at this

theorem region_al {id : Nat} {l : List Oper} (h : al P l.toArray Q l s) : ac P n0 (.region id l.toArray false) Q s := by
  rw [ac_eq]
  simp only [acode, Bool.false_eq_true, if_false]
  have := aops_al P l.toArray Q l 0 s (fun j hj => by simp)
  rw [List.size_toArray, List.range_eq_range', this]
  exact h

theorem seq_k {a b : Code} (h : ∀ K : ASt → Prop, (∀ t, ac P n0 b Q t → K t) → ac P n0 a (thenA K Q) s) : ac P n0 (.seq a b) Q s := by
  rw [ac_eq]
  have := h (fun s => ∃ s', (s' = s ∨ Weak n0 s s') ∧ ac P n0 b Q s') (fun t ht => ⟨t, .inl rfl, ht⟩)
  rw [ac_eq] at this
  exact ⟨ac P n0 b Q, this, fun s' hs' => by rwa [ac_eq] at hs'⟩

/-- Where ways meet again, or much need no longer be told. -/
theorem seq_cut {a b : Code} (M : ASt → Prop) (h : ∀ K : ASt → Prop, (∀ t t', Weak n0 t t' → M t' → K t) → ac P n0 a (thenA K Q) s) (h2 : ∀ t, M t → ac P n0 b Q t) : ac P n0 (.seq a b) Q s := by
  rw [ac_eq]
  have := h (fun s => ∃ s', (s' = s ∨ Weak n0 s s') ∧ M s') (fun t t' hw hm => ⟨t', .inr hw, hm⟩)
  rw [ac_eq] at this
  exact ⟨M, this, fun s' hs' => by have := h2 s' hs'; rwa [ac_eq] at this⟩

theorem cond_k {c : Operand} {a b : Code} {t : Bool} (ht : s.ev c = .bool t) (h1 : t = true → ac P n0 a Q s) (h2 : t = false → ac P n0 b Q s) : ac P n0 (.cond c a b) Q s := by
  rw [ac_eq]
  simp only [ac_eq] at h1 h2
  simp only [acode, ht]
  cases t
  · exact h2 rfl
  · exact h1 rfl

theorem cond_true {c : Operand} {a b : Code} (ht : s.ev c = .bool true) (h1 : ac P n0 a Q s) : ac P n0 (.cond c a b) Q s :=
  cond_k ht (fun _ => h1) (fun h => by cases h)
theorem cond_false {c : Operand} {a b : Code} (ht : s.ev c = .bool false) (h1 : ac P n0 b Q s) : ac P n0 (.cond c a b) Q s :=
  cond_k ht (fun h => by cases h) (fun _ => h1)

theorem loop_k {c : Code} (I : ASt → Prop) (μ : ASt → Nat) (s0 : ASt) (hw : Weak n0 s s0) (h0 : I s0)
    (h : ∀ s', I s' → ∀ K : ASt → Prop, (∀ t t3, Weak n0 t t3 → I t3 → μ t3 < μ s' → K t) → ac P n0 c (thenA K Q) s') : ac P n0 (.loop c) Q s := by
  rw [ac_eq]
  refine ⟨I, μ, ⟨s0, .inr hw, h0⟩, fun s' hs' => ?_⟩
  have := h s' hs' (fun s'' => ∃ s3, (s3 = s'' ∨ Weak n0 s'' s3) ∧ I s3 ∧ μ s3 < μ s') (fun t t3 hw hi hlt => ⟨t3, .inr hw, hi, hlt⟩)
  rwa [ac_eq] at this

theorem block_k {id : Nat} {c : Code} (h : ac P n0 c (inBlockA id Q) s) : ac P n0 (.block id c) Q s := by
  rw [ac_eq] at *; exact h
theorem exit_k {id : Nat} (h : Q (.exit id) s) : ac P n0 (.exit id) Q s := by rw [ac_eq]; exact h
theorem ret_k (h : Q .ret s) : ac P n0 .ret Q s := by rw [ac_eq]; exact h
theorem skip_k (h : Q .normal s) : ac P n0 .skip Q s := by rw [ac_eq]; exact h

@[simp] theorem thenA_normal (K : ASt → Prop) : thenA K Q .normal s = K s := Eq.trans rfl rfl
@[simp] theorem thenA_ret (K : ASt → Prop) : thenA K Q .ret s = Q .ret s := Eq.trans rfl rfl
@[simp] theorem thenA_exit (K : ASt → Prop) (id : Nat) : thenA K Q (.exit id) s = Q (.exit id) s := Eq.trans rfl rfl
@[simp] theorem thenA_panic (K : ASt → Prop) (v : AV) : thenA K Q (.panic v) s = Q (.panic v) s := Eq.trans rfl rfl
@[simp] theorem inBlockA_normal (id : Nat) : inBlockA id Q .normal s = Q .normal s := Eq.trans rfl rfl
@[simp] theorem inBlockA_ret (id : Nat) : inBlockA id Q .ret s = Q .ret s := Eq.trans rfl rfl
@[simp] theorem inBlockA_panic (id : Nat) (v : AV) : inBlockA id Q (.panic v) s = Q (.panic v) s := Eq.trans rfl rfl
@[simp] theorem inBlockA_exit (id id' : Nat) : inBlockA id Q (.exit id') s = if id' = id then Q .normal s else Q (.exit id') s := Eq.trans rfl rfl

end

/-- Go on with a value, if there is one. -/
def pk (o : Option AV) (K : AV → Prop) : Prop := match o with
  | some v => K v
  | none => False
/-- Put a value, if there is one, and go on. -/
def pkp (o : Option AV) (dst : Option Nat) (s : ASt) (K : ASt → Prop) : Prop := match o with
  | some v => K (s.put dst v)
  | none => False
@[simp] theorem pkp_some (v : AV) (dst : Option Nat) (s : ASt) (K : ASt → Prop) : pkp (some v) dst s K = K (s.put dst v) := Eq.trans rfl rfl
/-- An operation behind a guard. -/
def gx (M : Option Nat) (P : Program) (b : Option Bool) (o : Oper) (s : ASt) (K : ASt → Prop) (Q : AExit → ASt → Prop) (X : Option Nat → Program → Oper → ASt → (ASt → Prop) → (AExit → ASt → Prop) → Prop) : Prop := match b with
  | some g => if g = true then X M P o s K Q else K (s.put o.dst (.tup []))
  | none => False
theorem gx_true (M : Option Nat) (P : Program) (o : Oper) (s : ASt) (K : ASt → Prop) (Q : AExit → ASt → Prop) (X : Option Nat → Program → Oper → ASt → (ASt → Prop) → (AExit → ASt → Prop) → Prop) : gx M P (some true) o s K Q X = X M P o s K Q := Eq.trans rfl rfl
theorem gx_false (M : Option Nat) (P : Program) (o : Oper) (s : ASt) (K : ASt → Prop) (Q : AExit → ASt → Prop) (X : Option Nat → Program → Oper → ASt → (ASt → Prop) → (AExit → ASt → Prop) → Prop) : gx M P (some false) o s K Q X = K (s.put o.dst (.tup [])) := Eq.trans rfl rfl
/-- A guard's value. -/
def gv (d : Option Nat) (want : Bool) (s : ASt) : Option Bool := match d with
  | some d => match s.tm d with
    | .bool b => some (b == want)
    | .tup [] => some false
    | _ => none
  | none => none
def aop0 (_ : Option Nat) (P : Program) (o : Oper) (s : ASt) (K : ASt → Prop) (Q : AExit → ASt → Prop) : Prop := aop P o s K Q
@[simp] theorem pk_some (v : AV) (K : AV → Prop) : pk (some v) K = K v := Eq.trans rfl rfl

/-- The heap at a call's begin, and the boxes made since. -/
def AHeap.ext (h : AHeap) (L : List (List Cell)) : AHeap := ⟨h.blocks ++ L⟩
def AHeap.n (h : AHeap) : Nat := h.blocks.length

section
variable (h : AHeap) (L : List (List Cell))
theorem AHeap.ext_nil : h.ext [] = h := by cases h; simp [AHeap.ext]
theorem new_h (cs : List Cell) : h.new cs = h.ext [cs] := Eq.trans rfl rfl
theorem new_ext (cs : List Cell) : (h.ext L).new cs = h.ext (L ++ [cs]) := by simp [AHeap.ext, AHeap.new]
theorem len_h : h.blocks.length = h.n := Eq.trans rfl rfl
theorem len_ext : (h.ext L).blocks.length = h.n + L.length := by simp [AHeap.ext, AHeap.n]
theorem at_right {α : Type} (a b : List α) (i : Nat) : (a ++ b)[a.length + i]? = b[i]? := by
  rw [List.getElem?_append_right (by omega), Nat.add_sub_cancel_left]
theorem modify_right {α : Type} (f : α → α) (b : List α) (i : Nat) : ∀ (a : List α), (a ++ b).modify (a.length + i) f = a ++ b.modify i f := by
  intro a
  induction a with
  | nil => simp
  | cons x a ih =>
    have e : (x :: a).length + i = (a.length + i) + 1 := by simp; omega
    rw [e, List.cons_append, List.modify_succ_cons, ih, List.cons_append]
theorem get_ext (i j : Nat) : (h.ext L).get (h.n + i) j = L[i]?.bind (·[j]?) := by
  simp only [AHeap.get, AHeap.ext, AHeap.n, at_right]
theorem get_ext0 (j : Nat) : (h.ext L).get h.n j = L[0]?.bind (·[j]?) := get_ext h L 0 j
theorem row_ext (i off n : Nat) : (h.ext L).row (h.n + i) off n = match L[i]? with | some b => if off + n ≤ b.length then some ((b.drop off).take n) else none | none => none := by
  simp only [AHeap.row, AHeap.ext, AHeap.n, at_right]; rfl
theorem row_ext0 (off n : Nat) : (h.ext L).row h.n off n = match L[0]? with | some b => if off + n ≤ b.length then some ((b.drop off).take n) else none | none => none := row_ext h L 0 off n
theorem set_ext (i off : Nat) (cs : List Cell) : (h.ext L).set (h.n + i) off cs = h.ext (L.modify i fun b => b.take off ++ cs ++ b.drop (off + cs.length)) := by
  simp only [AHeap.set, AHeap.ext, AHeap.n, AHeap.mk.injEq]
  exact modify_right _ _ _ _
theorem set_ext0 (off : Nat) (cs : List Cell) : (h.ext L).set h.n off cs = h.ext (L.modify 0 fun b => b.take off ++ cs ++ b.drop (off + cs.length)) := set_ext h L 0 off cs
theorem consume_ext (i j : Nat) : (h.ext L).consume (.cell (h.n + i) j) = h.ext (L.modify i fun b => b.modify j fun c => { c with o := none }) := by
  simp only [AHeap.consume, AHeap.ext, AHeap.n, AHeap.mk.injEq]
  exact modify_right _ _ _ _
theorem consume_ext0 (j : Nat) : (h.ext L).consume (.cell h.n j) = h.ext (L.modify 0 fun b => b.modify j fun c => { c with o := none }) := consume_ext h L 0 j
theorem ext_ext (A B : List (List Cell)) : (h.ext A).ext B = h.ext (A ++ B) := by simp [AHeap.ext]
theorem n_ext : (h.ext L).n = h.n + L.length := by simp [AHeap.ext, AHeap.n]
theorem consume_tmp (n : Nat) : h.consume (.tmp n) = h := Eq.trans rfl rfl
end


section
variable (s : ASt) (d t : Nat) (v : AV) (c : Option (Cls × TypeId))
theorem put_none : s.put none v c = s := Eq.trans rfl rfl
theorem put_tm : (s.put (some d) v c).tm t = if t = d then v else s.tm t := Eq.trans rfl rfl
theorem put_cl : (s.put (some d) v c).cl t = if t = d then c else s.cl t := Eq.trans rfl rfl
theorem put_h : (s.put (some d) v c).h = s.h := Eq.trans rfl rfl
theorem put_df : (s.put (some d) v c).df = s.df := Eq.trans rfl rfl
theorem kill_tm (k : Cls) : (s.kill k).tm t = s.tm t := Eq.trans rfl rfl
theorem kill_cl (k : Cls) : (s.kill k).cl t = killf k (s.cl t) := Eq.trans rfl rfl
theorem kill_h (k : Cls) : (s.kill k).h = s.h := Eq.trans rfl rfl
theorem kill_df (k : Cls) : (s.kill k).df = s.df := Eq.trans rfl rfl
theorem killCells_tm : s.killCells.tm t = s.tm t := Eq.trans rfl rfl
theorem killCells_cl : s.killCells.cl t = killc (s.cl t) := Eq.trans rfl rfl
theorem killCells_h : s.killCells.h = s.h := Eq.trans rfl rfl
theorem killCells_df : s.killCells.df = s.df := Eq.trans rfl rfl
theorem bare_h : s.bare.h = s.h := Eq.trans rfl rfl
theorem bare_df : s.bare.df = s.df := Eq.trans rfl rfl
end

/-- The heap and the rights are given anew; the temporaries stay. -/
def ASt.seth (s : ASt) (h : AHeap) : ASt := { s with h := h }
def ASt.setc (s : ASt) (cl : Nat → Option (Cls × TypeId)) : ASt := { s with cl := cl }
section
variable (s : ASt) (t : Nat) (h : AHeap) (cl : Nat → Option (Cls × TypeId))
theorem seth_eq : ({ s with h := h } : ASt) = s.seth h := Eq.trans rfl rfl
theorem seth_tm : (s.seth h).tm t = s.tm t := Eq.trans rfl rfl
theorem seth_cl : (s.seth h).cl t = s.cl t := Eq.trans rfl rfl
theorem seth_h : (s.seth h).h = h := Eq.trans rfl rfl
theorem seth_df : (s.seth h).df = s.df := Eq.trans rfl rfl
theorem setc_tm : (s.setc cl).tm t = s.tm t := Eq.trans rfl rfl
theorem setc_cl : (s.setc cl).cl t = cl t := Eq.trans rfl rfl
theorem setc_h : (s.setc cl).h = s.h := Eq.trans rfl rfl
theorem setc_df : (s.setc cl).df = s.df := Eq.trans rfl rfl
theorem enter_tm (args : List AV) : (ASt.enter args h).tm t = args.getD t .raw := Eq.trans rfl rfl
theorem enter_cl (args : List AV) : (ASt.enter args h).cl t = none := Eq.trans rfl rfl
theorem enter_h (args : List AV) : (ASt.enter args h).h = h := Eq.trans rfl rfl
theorem enter_df (args : List AV) : (ASt.enter args h).df = [] := Eq.trans rfl rfl
end

section
variable (P : Program) (ops : Array Oper) (Q : AExit → ASt → Prop) (l : List Oper) (s : ASt) (dst : Option Nat) (ty : TypeId) (pos : String) (af : Array Edge)
theorem al_nil : al P ops Q [] s = Q .normal s := Eq.trans rfl rfl
theorem al_none (op : Op) : al P ops Q (⟨dst, op, ty, pos, af, none⟩ :: l) s = aop P ⟨dst, op, ty, pos, af, none⟩ s (al P ops Q l) Q := Eq.trans rfl rfl
theorem al_guard (op : Op) (j : Nat) (want : Bool) : al P ops Q (⟨dst, op, ty, pos, af, some (j, want)⟩ :: l) s =
    gx none P (gv ((ops[j]?).bind (·.dst)) want s) ⟨dst, op, ty, pos, af, none⟩ s (al P ops Q l) Q aop0 := rfl
theorem aop0_eq (M : Option Nat) (o : Oper) (K : ASt → Prop) : aop0 M P o s K Q = aop P o s K Q := Eq.trans rfl rfl
variable (K : ASt → Prop) (g : Option (Nat × Bool))
theorem aop_move (x : Operand) : aop P ⟨dst, .move x, ty, pos, af, g⟩ s K Q = K (s.put dst (s.ev x) (s.evc x)) := by
  cases x <;> rfl
theorem aop_assign (x : Operand) : aop P ⟨dst, .assign x, ty, pos, af, g⟩ s K Q = K (s.put dst (s.ev x) (s.evc x)) := by
  cases x <;> rfl
theorem aop_alloc (t : TypeId) : aop P ⟨dst, .alloc t, ty, pos, af, g⟩ s K Q = match zeroOf P t with
    | some z => K ((s.seth (s.h.new (z.map fun v => { v }))).put dst (.ptr s.h.blocks.length 0))
    | none => False := rfl
theorem aop_box (t : TypeId) (x : Operand) : aop P ⟨dst, .box t x, ty, pos, af, g⟩ s K Q =
    ((s.ev x).cells.all AV.one = true ∧ K ((s.seth (s.h.new ((s.ev x).cells.map fun v => { v }))).put dst (.ptr s.h.blocks.length 0))) := rfl
def loadA (P : Program) (dst : Option Nat) (t : TypeId) (x : AV) (s : ASt) (K : ASt → Prop) : Prop :=
  match x, szOf P t, aggOf P t with
    | .ptr k off, some z, some true => match s.h.row k off z with
      | some cs => K (s.put dst (.agg (cs.map (·.v))))
      | none => False
    | .ptr k off, some _, some false => match s.h.get k off with
      | some c => K (s.put dst c.v (c.o.map fun e => (.cell k off, e)))
      | none => False
    | .vptr cs, some z, some true => if z ≤ cs.length then K (s.put dst (.agg (cs.take z))) else False
    | .vptr cs, some _, some false => match cs with
      | c :: _ => K (s.put dst c)
      | [] => False
    | _, _, _ => False
theorem aop_load (t : TypeId) (x : Operand) : aop P ⟨dst, .load t x, ty, pos, af, g⟩ s K Q = loadA P dst t (s.ev x) s K := Eq.trans rfl rfl
def storeA (P : Program) (dst : Option Nat) (t : TypeId) (x y : AV) (cy : Option (Cls × TypeId)) (s : ASt) (K : ASt → Prop) : Prop :=
  match x, szOf P t with
    | .ptr k off, some z => y.cells.length = z ∧ y.cells.all AV.one = true ∧ (s.h.row k off z).isSome = true ∧
        K (((s.seth (s.h.set k off (cellsOf y cy))).setc fun t => killTmp cy (killRow k off z (s.cl t))).put dst .raw)
    | _, _ => False
theorem aop_store (t : TypeId) (x y : Operand) : aop P ⟨dst, .store t x y, ty, pos, af, g⟩ s K Q = storeA P dst t (s.ev x) (s.ev y) (s.evc y) s K := Eq.trans rfl rfl
def buildSliceA (P : Program) (dst : Option Nat) (t : TypeId) (n : Nat) (parts : List (Nat × Operand)) (s : ASt) (K : ASt → Prop) : Prop :=
  match elemOf P t with
    | some e => match szOf P e, zeroOf P e with
      | some z, some zs => n * z ≤ 16777216 ∧ 0 < z ∧ zs.length = z ∧ match laidA (List.replicate n zs).flatten (elemsA z s.ev parts) with
        | some cs => K ((s.kill (.tmp (dst.getD 0))).put dst (.slice ((List.range n).map fun i => ((cs.drop (i * z)).take z).map AV.full)) (dst.map fun d => (.tmp d, e)))
        | none => False
      | _, _ => False
    | none => False
theorem aop_buildSlice (t : TypeId) (n : Nat) (parts : List (Nat × Operand)) : aop P ⟨dst, .buildSlice t n parts.toArray, ty, pos, af, g⟩ s K Q = buildSliceA P dst t n parts s K := Eq.trans rfl rfl
theorem aop_call (f : Operand) (args : List Operand) (ts : Array TypeId) : aop P ⟨dst, .call ⟨.value f, args.toArray, ts⟩, ty, pos, af, g⟩ s K Q = callA P dst (s.ev f) (args.map s.ev) s K Q := Eq.trans rfl rfl
theorem aop_append (x y : Operand) (t t' : TypeId) : aop P ⟨dst, .call ⟨.builtin .append, #[x, y], #[t, t']⟩, ty, pos, af, g⟩ s K Q = appendA P dst t t' (s.ev x) (s.evc x) (s.ev y) s K := Eq.trans rfl rfl
theorem aop_len (x : Operand) (t : TypeId) : aop P ⟨dst, .call ⟨.builtin .len, #[x], #[t]⟩, ty, pos, af, g⟩ s K Q = pkp (lenA (P.underlying t) (s.ev x)) dst s K := Eq.trans rfl rfl
theorem aop_panic (x : Operand) : aop P ⟨dst, .panic x, ty, pos, af, g⟩ s K Q = match s.ev x with
    | .iface t v => Q (.panic (.iface t v)) s.bare
    | _ => False := rfl
theorem aop_defer (f : Operand) (args : List Operand) (ts : Array TypeId) : aop P ⟨dst, .defer ⟨.value f, args.toArray, ts⟩, ty, pos, af, g⟩ s K Q = deferA (s.ev f) (args.map s.ev) s fun s' => K (s'.put dst .raw) := Eq.trans rfl rfl
def fieldAddrA (f : Option (Nat × Nat × Bool)) (x : AV) : Option AV := match x, f with
    | .ptr k off, some (o, z, _) => if z = 0 then none else some (.ptr k (off + o))
    | .vptr cs, some (o, z, _) => if z = 0 then none else some (.vptr (cs.drop o))
    | _, _ => none
theorem aop_fieldAddr (t : TypeId) (x : Operand) (f : Nat) : aop P ⟨dst, .fieldAddr t x f, ty, pos, af, g⟩ s K Q = pkp (fieldAddrA (fldOf P t f) (s.ev x)) dst s K := Eq.trans rfl rfl
def fieldA (f : Option (Nat × Nat × Bool)) (x : AV) : Option AV := match x, f with
    | .agg cs, some (o, z, true) => if o + z ≤ cs.length then some (.agg ((cs.drop o).take z)) else none
    | .agg cs, some (o, _, false) => cs[o]?
    | _, _ => none
theorem aop_field (t : TypeId) (x : Operand) (f : Nat) : aop P ⟨dst, .field t x f, ty, pos, af, g⟩ s K Q = pkp (fieldA (fldOf P t f) (s.ev x)) dst s K := Eq.trans rfl rfl
theorem aop_extract (x : Operand) (i : Nat) : aop P ⟨dst, .extract x i, ty, pos, af, g⟩ s K Q = pkp (match s.ev x with | .tup vs => vs[i]? | _ => none) dst s K := Eq.trans rfl rfl
theorem aop_build (t : TypeId) (parts : Array (Nat × Operand)) : aop P ⟨dst, .build t parts, ty, pos, af, g⟩ s K Q = pkp (pureA P (.build t parts) s.ev) dst s K := Eq.trans rfl rfl
theorem aop_indexAddr (t : TypeId) (x i : Operand) : aop P ⟨dst, .indexAddr t x i, ty, pos, af, g⟩ s K Q = pkp (pureA P (.indexAddr t x i) s.ev) dst s K := Eq.trans rfl rfl
theorem aop_index (t : TypeId) (x i : Operand) : aop P ⟨dst, .index t x i, ty, pos, af, g⟩ s K Q = pkp (pureA P (.index t x i) s.ev) dst s K := Eq.trans rfl rfl
theorem aop_slice (t : TypeId) (x : Operand) (lo hi mx : Option Operand) : aop P ⟨dst, .slice t x lo hi mx, ty, pos, af, g⟩ s K Q = pkp (pureA P (.slice t x lo hi mx) s.ev) dst s K := Eq.trans rfl rfl
theorem aop_binOp (op : BinOp) (t t' : TypeId) (x y : Operand) : aop P ⟨dst, .binOp op t x y t', ty, pos, af, g⟩ s K Q = pkp (pureA P (.binOp op t x y t') s.ev) dst s K := Eq.trans rfl rfl
theorem aop_unOp (op : UnOp) (t : TypeId) (x : Operand) : aop P ⟨dst, .unOp op t x, ty, pos, af, g⟩ s K Q = pkp (unA op (s.ev x)) dst s K := Eq.trans rfl rfl
theorem aop_convert (t t' : TypeId) (x : Operand) : aop P ⟨dst, .convert t t' x, ty, pos, af, g⟩ s K Q = pkp (pureA P (.convert t t' x) s.ev) dst s K := Eq.trans rfl rfl
theorem aop_makeInterface (t : TypeId) (x : Operand) : aop P ⟨dst, .makeInterface t x, ty, pos, af, g⟩ s K Q = pkp (pureA P (.makeInterface t x) s.ev) dst s K := Eq.trans rfl rfl
theorem aop_makeFunc (f : FuncId) (a b : List Operand) : aop P ⟨dst, .makeFunc (.func f) a.toArray b.toArray, ty, pos, af, g⟩ s K Q = K (s.put dst (.func f (a.map s.ev) (b.map s.ev))) := Eq.trans rfl rfl
theorem aop_nilCheck (x : Operand) : aop P ⟨dst, .nilCheck x, ty, pos, af, g⟩ s K Q = pkp (match s.ev x with | .ptr k off => some (.ptr k off) | .vptr cs => some (.vptr cs) | _ => none) dst s K := Eq.trans rfl rfl
theorem aop_typeAssert (x : Operand) (t t' : TypeId) (ok : Bool) : aop P ⟨dst, .typeAssert x t t' ok, ty, pos, af, g⟩ s K Q = pkp (pureA P (.typeAssert x t t' ok) s.ev) dst s K := Eq.trans rfl rfl
theorem aop_pick (c a b : Operand) : aop P ⟨dst, .pick c a b, ty, pos, af, g⟩ s K Q = pkp (match s.ev c with | .bool t => some (if t then s.ev a else s.ev b) | _ => none) dst s K := Eq.trans rfl rfl
end


/-- A frame that is told in full: these temporaries, these rights, this heap, nothing deferred. -/
def lookA : List (Nat × AV) → Nat → AV
  | [], _ => .raw
  | (k, v) :: r, t => if t = k then v else lookA r t
def lookC : List (Nat × Cls × TypeId) → Nat → Option (Cls × TypeId)
  | [], _ => none
  | (k, v) :: r, t => if t = k then some v else lookC r t
def St (l : List (Nat × AV)) (c : List (Nat × Cls × TypeId)) (h : AHeap) : ASt := { tm := lookA l, cl := lookC c, h := h, df := [] }

section
variable (l : List (Nat × AV)) (c : List (Nat × Cls × TypeId)) (h : AHeap) (t k : Nat) (v : AV) (x : Cls × TypeId)
theorem St_tm : (St l c h).tm t = lookA l t := Eq.trans rfl rfl
theorem St_cl : (St l c h).cl t = lookC c t := Eq.trans rfl rfl
theorem St_h : (St l c h).h = h := Eq.trans rfl rfl
theorem St_df : (St l c h).df = [] := Eq.trans rfl rfl
theorem lookA_nil : lookA [] t = .raw := Eq.trans rfl rfl
theorem lookA_cons : lookA ((k, v) :: l) t = if t = k then v else lookA l t := Eq.trans rfl rfl
theorem lookC_nil : lookC [] t = none := Eq.trans rfl rfl
theorem lookC_cons : lookC ((k, x) :: c) t = if t = k then some x else lookC c t := Eq.trans rfl rfl
end

/-- The rights that are granted: of temporaries' names, and of cells (of boxes from n on). -/
def grants (n : Nat) (gt : List (Nat × TypeId)) (gc : List (Nat × Nat × TypeId)) : Cls → Option TypeId
  | .tmp m => (gt.find? fun p => p.1 == m).map (·.2)
  | .cell k j => if n ≤ k then (gc.find? fun p => p.1 == k - n && p.2.1 == j).map (·.2.2) else none

/-- Cells of boxes, held against cells of whom less is told. -/
def relC (gc : List (Nat × Nat × TypeId)) (k : Nat) : Nat → List Cell → List Cell → Prop
  | _, [], [] => True
  | j, c :: b, c' :: b' => (AW.LE c.v c'.v ∧ ∀ e, c'.o = some e → ((gc.find? fun p => p.1 == k && p.2.1 == j).map (·.2.2) = none ∧ c.o = some e) ∨ ((gc.find? fun p => p.1 == k && p.2.1 == j).map (·.2.2) = some e ∧ c.v = .nils)) ∧ relC gc k (j + 1) b b'
  | _, _, _ => False

def relL (gc : List (Nat × Nat × TypeId)) : Nat → List (List Cell) → List (List Cell) → Prop
  | _, _, [] => True
  | k, b :: L, b' :: L' => relC gc k 0 b b' ∧ relL gc (k + 1) L L'
  | _, _, _ => False

theorem relC_spec {gc : List (Nat × Nat × TypeId)} {k : Nat} : ∀ (b b' : List Cell) (j : Nat), relC gc k j b b' → b.length = b'.length ∧ ∀ (i : Nat) (c c' : Cell), b[i]? = some c → b'[i]? = some c' →
    AW.LE c.v c'.v ∧ ∀ e, c'.o = some e → ((gc.find? fun p => p.1 == k && p.2.1 == j + i).map (·.2.2) = none ∧ c.o = some e) ∨ ((gc.find? fun p => p.1 == k && p.2.1 == j + i).map (·.2.2) = some e ∧ c.v = .nils) := by
  intro b
  induction b with
  | nil =>
    intro b' j h
    cases b' with
    | nil => exact ⟨rfl, fun i c c' h1 => by simp at h1⟩
    | cons _ _ => exact h.elim
  | cons c b ih =>
    intro b' j h
    cases b' with
    | nil => exact h.elim
    | cons c' b' =>
      obtain ⟨h1, h2⟩ := h
      obtain ⟨h3, h4⟩ := ih b' (j + 1) h2
      refine ⟨by simp [h3], fun i d d' hd hd' => ?_⟩
      cases i with
      | zero => simp at hd hd'; subst hd hd'; exact h1
      | succ i =>
        have := h4 i d d' (by simpa using hd) (by simpa using hd')
        rw [show j + 1 + i = j + (i + 1) by omega] at this
        exact this

theorem relL_spec {gc : List (Nat × Nat × TypeId)} : ∀ (L L' : List (List Cell)) (k : Nat), relL gc k L L' → L'.length ≤ L.length ∧ ∀ (i : Nat) (b b' : List Cell), L[i]? = some b → L'[i]? = some b' → relC gc (k + i) 0 b b' := by
  intro L
  induction L with
  | nil =>
    intro L' k h
    cases L' with
    | nil => exact ⟨Nat.le_refl _, fun i b b' h1 => by simp at h1⟩
    | cons _ _ => exact h.elim
  | cons b L ih =>
    intro L' k h
    cases L' with
    | nil => exact ⟨by simp, fun i b b' _ h1 => by simp at h1⟩
    | cons b' L' =>
      obtain ⟨h1, h2⟩ := h
      obtain ⟨h3, h4⟩ := ih L' (k + 1) h2
      refine ⟨by simpa using h3, fun i d d' hd hd' => ?_⟩
      cases i with
      | zero => simp at hd hd'; subst hd hd'; exact h1
      | succ i =>
        have := h4 i d d' (by simpa using hd) (by simpa using hd')
        rw [show k + 1 + i = k + (i + 1) by omega] at this
        exact this

/-- To an explicit state, with rights granted to nil slices. -/
theorem weak_G {n0 : Nat} {s : ASt} {l : List (Nat × AV)} {c : List (Nat × Cls × TypeId)} {h : AHeap} {L L' : List (List Cell)} (gt : List (Nat × TypeId)) (gc : List (Nat × Nat × TypeId)) (htm : ∀ p ∈ l, AW.LE (s.tm p.1) p.2 ∧ Bel (h.n + L'.length) p.2)
    (hcl : ∀ p ∈ c, (grants h.n gt gc p.2.1 = none ∧ s.cl p.1 = some p.2) ∨ (grants h.n gt gc p.2.1 = some p.2.2 ∧ (∃ n, p.2.1 = .tmp n) ∧ s.tm p.1 = .nils))
    (hdf : s.df = []) (hh : s.h = h.ext L) (hL : relL gc 0 L L') (hlen : n0 ≤ h.n) (hc : Closed (h.ext L')) : Weak n0 s (St l c (h.ext L')) := by
  obtain ⟨hl1, hl2⟩ := relL_spec L L' 0 hL
  have hnl : (h.ext L').blocks.length = h.n + L'.length := len_ext h L'
  refine ⟨fun t => ?_, ⟨grants h.n gt gc, fun t x e hx => ?_, fun k j blk blk' x x' hk hk' hx hx' => ?_⟩, ⟨by rw [hdf]; rfl, by rw [hdf]; simp⟩, ⟨?_, fun k blk blk' hk hk' => ?_⟩, ?_, hc⟩
  · rw [St_tm, St_h, hnl]
    clear hcl
    induction l with
    | nil => exact .inr rfl
    | cons p l ih =>
      obtain ⟨k, v⟩ := p
      rw [lookA_cons]
      split
      · rename_i ht; subst ht; exact .inl (htm (t, v) (by simp))
      · exact ih (fun q hq => htm q (List.mem_cons_of_mem _ hq))
  · rw [St_cl] at hx
    clear htm
    induction c with
    | nil => cases hx
    | cons p c ih =>
      obtain ⟨k, v⟩ := p
      rw [lookC_cons] at hx
      split at hx
      · rename_i ht; subst ht; injection hx with hx; subst hx; exact hcl (t, (x, e)) (by simp)
      · exact ih (fun q hq => hcl q (List.mem_cons_of_mem _ hq)) hx
  · rw [hh] at hk
    rw [St_h] at hk'
    simp only [AHeap.ext] at hk hk'
    by_cases hkn : k < h.blocks.length
    · rw [List.getElem?_append_left hkn] at hk hk'
      rw [hk] at hk'; injection hk' with hk'; subst hk'
      rw [hx] at hx'; injection hx' with hx'; subst hx'
      refine ⟨.refl _, fun e he => .inl ⟨?_, he⟩⟩
      simp only [grants]; rw [if_neg]; simp only [AHeap.n]; omega
    · rw [List.getElem?_append_right (by omega)] at hk hk'
      have h1 := hl2 _ _ _ hk hk'
      obtain ⟨_, h2⟩ := relC_spec _ _ _ h1
      have h3 := h2 j x x' hx hx'
      simp only [Nat.zero_add] at h3
      refine ⟨h3.1, fun e he => ?_⟩
      simp only [grants, AHeap.n]
      have hle : h.blocks.length ≤ k := by omega
      simp only [hle, if_true]
      exact h3.2 e he
  · rw [hh, St_h, hnl, len_ext]; omega
  · rw [hh] at hk
    rw [St_h] at hk'
    simp only [AHeap.ext] at hk hk'
    by_cases hkn : k < h.blocks.length
    · rw [List.getElem?_append_left hkn] at hk hk'
      rw [hk] at hk'; injection hk' with hk'; rw [hk']
    · rw [List.getElem?_append_right (by omega)] at hk hk'
      exact (relC_spec _ _ _ (hl2 _ _ _ hk hk')).1
  · rw [St_h, hnl]; omega

theorem weak_St {n0 : Nat} {s : ASt} {l : List (Nat × AV)} {c : List (Nat × Cls × TypeId)} {h' : AHeap} (htm : ∀ p ∈ l, AW.LE (s.tm p.1) p.2 ∧ Bel h'.blocks.length p.2) (hcl : ∀ p ∈ c, s.cl p.1 = some p.2)
    (hdf : s.df = []) (hp : ∃ L, s.h.blocks = h'.blocks ++ L) (hlen : n0 ≤ h'.blocks.length) (hc : Closed h') : Weak n0 s (St l c h') := by
  obtain ⟨L, hL⟩ := hp
  refine ⟨fun t => ?_, ⟨fun _ => none, fun t x e hx => .inl ⟨rfl, ?_⟩, fun k j blk blk' x x' hk hk' hx hx' => ?_⟩, ⟨by rw [hdf]; rfl, by rw [hdf]; simp⟩, ⟨?_, fun k blk blk' hk hk' => ?_⟩, hlen, hc⟩
  · rw [St_tm]
    clear hcl
    induction l with
    | nil => exact .inr rfl
    | cons p l ih =>
      obtain ⟨k, v⟩ := p
      rw [lookA_cons]
      split
      · rename_i ht; subst ht; exact .inl (htm (t, v) (by simp))
      · exact ih (fun q hq => htm q (List.mem_cons_of_mem _ hq))
  · rw [St_cl] at hx
    clear htm
    induction c with
    | nil => cases hx
    | cons p c ih =>
      obtain ⟨k, v⟩ := p
      rw [lookC_cons] at hx
      split at hx
      · rename_i ht; subst ht; injection hx with hx; subst hx; exact hcl (t, (x, e)) (by simp)
      · exact ih (fun q hq => hcl q (List.mem_cons_of_mem _ hq)) hx
  · rw [St_h] at hk'
    have hlt := (List.getElem?_eq_some_iff.1 hk').1
    rw [hL, List.getElem?_append_left hlt, hk'] at hk
    injection hk with hk; subst hk
    rw [hx] at hx'; injection hx' with hx'; subst hx'
    exact ⟨.refl _, fun e he => .inl ⟨rfl, he⟩⟩
  · rw [St_h, hL]; simp
  · rw [St_h] at hk'
    have hlt := (List.getElem?_eq_some_iff.1 hk').1
    rw [hL, List.getElem?_append_left hlt, hk'] at hk
    injection hk with hk; rw [hk]

section
variable {n m : Nat}
theorem bel_bool (b : Bool) : Bel n (.bool b) = True := eq_true (.bool b)
theorem bel_int (k : IntKind) (i : Int) : Bel n (.int k i) = True := eq_true (.int k i)
theorem bel_str (s : List UInt8) : Bel n (.str s) = True := eq_true (.str s)
theorem bel_nilptr : Bel n .nilptr = True := eq_true .nilptr
theorem bel_ptr (k off : Nat) : Bel n (.ptr k off) = (k < n) := propext ⟨fun h => by cases h; assumption, .ptr⟩
theorem bel_nils : Bel n .nils = True := eq_true .nils
theorem bel_nilFunc : Bel n .nilFunc = True := eq_true .nilFunc
theorem bel_nilIface : Bel n .nilIface = True := eq_true .nilIface
theorem bel_raw : Bel n .raw = True := eq_true .raw
theorem bel_iface (t : TypeId) (v : AV) : Bel n (.iface t v) = Bel n v := propext ⟨fun h => by cases h; assumption, .iface⟩
theorem bel_agg (cs : List AV) : Bel n (.agg cs) = ∀ c ∈ cs, Bel n c := propext ⟨fun h => by cases h; assumption, .agg⟩
theorem bel_tup (cs : List AV) : Bel n (.tup cs) = ∀ c ∈ cs, Bel n c := propext ⟨fun h => by cases h; assumption, .tup⟩
theorem bel_vptr (cs : List AV) : Bel n (.vptr cs) = ∀ c ∈ cs, Bel n c := propext ⟨fun h => by cases h; assumption, .vptr⟩
theorem bel_func (f : FuncId) (a b : List AV) : Bel n (.func f a b) = ((∀ c ∈ a, Bel n c) ∧ ∀ c ∈ b, Bel n c) := propext ⟨fun h => by cases h; exact ⟨‹_›, ‹_›⟩, fun h => .func h.1 h.2⟩
theorem bel_slice (es : List (List AV)) : Bel n (.slice es) = ∀ e ∈ es, ∀ c ∈ e, Bel n c := propext
  ⟨fun h => by cases h with | slice h => exact fun e he c hc => h c (List.mem_flatten.2 ⟨e, he, hc⟩), fun h => .slice fun c hc => by obtain ⟨e, he, hc⟩ := List.mem_flatten.1 hc; exact h e he c hc⟩
theorem bel_slice_map {α : Type} (f : α → List AV) (l : List α) (h : ∀ x, ∀ c ∈ f x, Bel n c) : Bel n (.slice (l.map f)) := by
  rw [bel_slice]
  intro e he
  obtain ⟨x, _, rfl⟩ := List.mem_map.1 he
  exact h x
theorem Bel.mono {x : AV} (h : Bel n x) (hnm : n ≤ m) : Bel m x := by
  induction h with
  | ptr h => exact .ptr (Nat.lt_of_lt_of_le h hnm)
  | vptr _ ih => exact .vptr ih
  | slice _ ih => exact .slice ih
  | func _ _ ih1 ih2 => exact .func ih1 ih2
  | iface _ ih => exact .iface ih
  | agg _ ih => exact .agg ih
  | tup _ ih => exact .tup ih
  | _ => constructor
end

theorem Closed.ext {h : AHeap} {L : List (List Cell)} (hc : Closed h) (hL : ∀ b ∈ L, ∀ c ∈ b, Bel (h.n + L.length) c.v) : Closed (h.ext L) := by
  intro k blk hb c hcb
  rw [len_ext]
  simp only [AHeap.ext] at hb
  rw [List.getElem?_append] at hb
  split at hb
  · exact (hc k blk hb c hcb).mono (by simp [AHeap.n])
  · exact hL blk (List.mem_of_getElem? hb) c hcb

/-- The plain end of a body: what was made meanwhile is forgotten. -/
theorem ret_plain {P : Program} {rs : List ResultVar} {n0 : Nat} {R : AEnd → AHeap → Prop} {s : ASt} {v v' : AV} {h : AHeap} {L : List (List Cell)} (hdf : s.df = []) (hv : retA P s rs = some v) (hle : LE v v') (hh : s.h = h.ext L)
    (hn : n0 ≤ h.blocks.length) (hc : Closed h) (hb : Bel h.blocks.length v') (hR : R (.ret v') h) : abodyPost P rs n0 R .ret s :=
  ⟨hdf, v, v', h, L, hv, hle, by rw [hh]; rfl, hn, hc, hb, .inl hR⟩

theorem ret_same {P : Program} {rs : List ResultVar} {n0 : Nat} {R : AEnd → AHeap → Prop} {s : ASt} {v v' : AV} {h : AHeap} (hdf : s.df = []) (hv : retA P s rs = some v) (hle : LE v v') (hh : s.h = h)
    (hn : n0 ≤ h.blocks.length) (hc : Closed h) (hb : Bel h.blocks.length v') (hR : R (.ret v') h) : abodyPost P rs n0 R .ret s :=
  ret_plain hdf hv hle (by rw [hh, AHeap.ext_nil]) hn hc hb hR

theorem le_self (x : AV) : LE x x = True := eq_true (.refl x)
theorem le_nils : LE .nils (.slice []) = True := eq_true .nil

def AV.nat : AV → Nat
  | .int _ n => n.toNat
  | _ => 0

end Go.AW
