/- The abstract walk: loops told by a family of states. -/
import Derived.Test.YtijochhhibgcaaaDoorOrder
import Derived.IntWalk
namespace Go.AW

theorem icv_move (x : Operand) : isCallV (.move x) = false := Eq.trans rfl rfl
theorem icv_assign (x : Operand) : isCallV (.assign x) = false := Eq.trans rfl rfl
theorem icv_alloc (t : TypeId) : isCallV (.alloc t) = false := Eq.trans rfl rfl
theorem icv_box (t : TypeId) (x : Operand) : isCallV (.box t x) = false := Eq.trans rfl rfl
theorem icv_load (t : TypeId) (x : Operand) : isCallV (.load t x) = false := Eq.trans rfl rfl
theorem icv_store (t : TypeId) (x y : Operand) : isCallV (.store t x y) = false := Eq.trans rfl rfl
theorem icv_fieldAddr (t : TypeId) (x : Operand) (f : Nat) : isCallV (.fieldAddr t x f) = false := Eq.trans rfl rfl
theorem icv_field (t : TypeId) (x : Operand) (f : Nat) : isCallV (.field t x f) = false := Eq.trans rfl rfl
theorem icv_extract (x : Operand) (i : Nat) : isCallV (.extract x i) = false := Eq.trans rfl rfl
theorem icv_build (t : TypeId) (ps : Array (Nat × Operand)) : isCallV (.build t ps) = false := Eq.trans rfl rfl
theorem icv_buildSlice (t : TypeId) (n : Nat) (ps : Array (Nat × Operand)) : isCallV (.buildSlice t n ps) = false := Eq.trans rfl rfl
theorem icv_indexAddr (t : TypeId) (x i : Operand) : isCallV (.indexAddr t x i) = false := Eq.trans rfl rfl
theorem icv_index (t : TypeId) (x i : Operand) : isCallV (.index t x i) = false := Eq.trans rfl rfl
theorem icv_slice (t : TypeId) (x : Operand) (a b c : Option Operand) : isCallV (.slice t x a b c) = false := Eq.trans rfl rfl
theorem icv_binOp (o : BinOp) (t u : TypeId) (x y : Operand) : isCallV (.binOp o t x y u) = false := Eq.trans rfl rfl
theorem icv_unOp (o : UnOp) (t : TypeId) (x : Operand) : isCallV (.unOp o t x) = false := Eq.trans rfl rfl
theorem icv_convert (t u : TypeId) (x : Operand) : isCallV (.convert t u x) = false := Eq.trans rfl rfl
theorem icv_makeInterface (t : TypeId) (x : Operand) : isCallV (.makeInterface t x) = false := Eq.trans rfl rfl
theorem icv_makeFunc (f : Fn) (a b : Array Operand) : isCallV (.makeFunc f a b) = false := Eq.trans rfl rfl
theorem icv_nilCheck (x : Operand) : isCallV (.nilCheck x) = false := Eq.trans rfl rfl
theorem icv_typeAssert (x : Operand) (t u : TypeId) (ok : Bool) : isCallV (.typeAssert x t u ok) = false := Eq.trans rfl rfl
theorem icv_pick (a b c : Operand) : isCallV (.pick a b c) = false := Eq.trans rfl rfl
theorem icv_panic (x : Operand) : isCallV (.panic x) = false := Eq.trans rfl rfl
theorem icv_builtin (b : Builtin) (a : Array Operand) (t : Array TypeId) : isCallV (.call ⟨.builtin b, a, t⟩) = false := Eq.trans rfl rfl
theorem bel_all {n : Nat} {l : List AV} (h : ∀ c ∈ l, Bel n c) : (∀ c ∈ l, Bel n c) = True := eq_true h
theorem bel_sl_nil (n : Nat) : Bel n (.slice []) = True := eq_true (.slice (by simp))
theorem bel_sl_cons (n : Nat) (e : List AV) (es : List (List AV)) : Bel n (.slice (e :: es)) = ((∀ c ∈ e, Bel n c) ∧ Bel n (.slice es)) := by
  rw [bel_slice, bel_slice]; simp
theorem bel_sl_app (n : Nat) (a b : List (List AV)) : Bel n (.slice (a ++ b)) = (Bel n (.slice a) ∧ Bel n (.slice b)) := by
  rw [bel_slice, bel_slice, bel_slice]; simp only [List.mem_append, eq_iff_iff]
  exact ⟨fun h => ⟨fun e he => h e (.inl he), fun e he => h e (.inr he)⟩, fun h e he => he.elim (h.1 e) (h.2 e)⟩
theorem beq_t (a : Bool) : (a == true) = a := by cases a <;> rfl
theorem beq_f (a : Bool) : (a == false) = !a := by cases a <;> rfl

theorem least {q : Nat → Prop} : ∀ m, q m → ∃ k, q k ∧ ∀ j, q j → k ≤ j := by
  intro m
  induction m using Nat.strongRecOn with
  | ind m ih =>
    intro hm
    by_cases h : ∃ j, q j ∧ j < m
    · obtain ⟨j, hj, hlt⟩ := h; exact ih j hlt hj
    · exact ⟨m, hm, fun j hj => Nat.le_of_not_lt fun hlt => h ⟨j, hj, hlt⟩⟩

open Classical in
theorem loop_st {P : Program} {n0 : Nat} {Q : AExit → ASt → Prop} {s : ASt} {c : Code} {α : Type} (S : α → ASt) (ok : α → Prop) (μ : α → Nat) (a0 : α) (hw : Weak n0 s (S a0)) (h0 : ok a0)
    (h : ∀ a, ok a → ∀ K : ASt → Prop, (∀ t b, Weak n0 t (S b) → ok b → μ b < μ a → K t) → ac P n0 c (thenA K Q) (S a)) : ac P n0 (.loop c) Q s := by
  let q : ASt → Nat → Prop := fun s m => ∃ a, ok a ∧ s = S a ∧ μ a = m
  have hl : ∀ s, (∃ m, q s m) → ∃ k, q s k ∧ ∀ j, q s j → k ≤ j := fun s ⟨m, hm⟩ => least m hm
  let μ' : ASt → Nat := fun s => if e : ∃ m, q s m then (hl s e).choose else 0
  have hμ : ∀ s (e : ∃ m, q s m), q s (μ' s) ∧ ∀ j, q s j → μ' s ≤ j := by
    intro s e
    simp only [μ', dif_pos e]
    exact (hl s e).choose_spec
  refine loop_k (fun s => ∃ a, ok a ∧ s = S a) μ' (S a0) hw ⟨a0, h0, rfl⟩ ?_
  rintro s' ⟨a, ha, rfl⟩ K hK
  obtain ⟨⟨a', ha', hs, hm⟩, _⟩ := hμ (S a) ⟨μ a, a, ha, rfl, rfl⟩
  rw [hs]
  refine h a' ha' K fun t b hwb hb hlt => hK t (S b) hwb ⟨b, hb, rfl⟩ ?_
  have h1 : μ' (S b) ≤ μ b := (hμ (S b) ⟨μ b, b, hb, rfl, rfl⟩).2 _ ⟨b, hb, rfl, rfl⟩
  omega

section
variable {P : Program} {ops : Array Oper} {Q : AExit → ASt → Prop} {s : ASt} {K : ASt → Prop} {M : Option Nat} {dst : Option Nat} {op : Op} {ty : TypeId} {pos : String} {af : Array Edge} {g : Option (Nat × Bool)}
theorem planA_done : planA P ops Q M .done s = Q .normal s := Eq.trans rfl rfl
theorem planA_step (i : Nat) (p : Plan) : planA P ops Q M (.step i p) s = match ops[i]? with | none => planA P ops Q M p s | some o => exec1 P ops Q M o s (planA P ops Q M p) := by
  simp only [planA, execI]; rfl
theorem planA_hold (i : Nat) (p : Plan) : planA P ops Q M (.hold i p) s = ((match ops[i]? with | some o => steadyA M o s | none => False) ∧ match ops[i]? with | none => planA P ops Q M p s | some o => exec1 P ops Q M o s (planA P ops Q M p)) := by
  simp only [planA, execI]; rfl
theorem planA_alt (a b : Plan) : planA P ops Q M (.alt a b) s = (planA P ops Q M a s ∧ planA P ops Q M b s) := Eq.trans rfl rfl
theorem exec1_none : exec1 P ops Q M ⟨dst, op, ty, pos, af, none⟩ s K = aopX M P ⟨dst, op, ty, pos, af, none⟩ s K Q := Eq.trans rfl rfl
theorem exec1_guard (j : Nat) (want : Bool) : exec1 P ops Q M ⟨dst, op, ty, pos, af, some (j, want)⟩ s K = gx M P (gv ((ops[j]?).bind (·.dst)) want s) ⟨dst, op, ty, pos, af, none⟩ s K Q aopX := Eq.trans rfl rfl
theorem steadyA_load (M' : Nat) (t : TypeId) (x : Operand) : steadyA (some M') ⟨dst, .load t x, ty, pos, af, g⟩ s = match s.ev x with | .ptr k _ => M' ≤ k | _ => True := Eq.trans rfl rfl

/-- A call in such a region. -/
def callM (M : Nat) (P : Program) (dst : Option Nat) (f : AV) (args : List AV) (s : ASt) (K : ASt → Prop) (Q : AExit → ASt → Prop) : Prop := ∃ m, m ≤ M ∧ frameA P m dst f args s K Q
theorem aopX_call (M' : Nat) (f : Operand) (args : List Operand) (ts : Array TypeId) : aopX (some M') P ⟨dst, .call ⟨.value f, args.toArray, ts⟩, ty, pos, af, g⟩ s K Q = callM M' P dst (s.ev f) (args.map s.ev) s K Q := Eq.trans rfl rfl
theorem aopX_x (M' : Nat) (h : isCallV op = false) : aopX (some M') P ⟨dst, op, ty, pos, af, g⟩ s K Q = aop P ⟨dst, op, ty, pos, af, g⟩ s K Q := aopX_other h
theorem aopX_n : aopX none P ⟨dst, op, ty, pos, af, g⟩ s K Q = aop P ⟨dst, op, ty, pos, af, g⟩ s K Q := Eq.trans rfl rfl
end

/-- A call that sees all boxes. -/
theorem call_k {P : Program} {dst : Option Nat} {g : FuncId} {fst cap args : List AV} {s : ASt} {K : ASt → Prop} {Q : AExit → ASt → Prop} {R : AEnd → AHeap → Prop} (hb : hasBody P g = true) (hc : ACalls P g (fst ++ args ++ cap) s.h R)
    (hr : ∀ v o h', R (.ret v o) h' → K ((({ s with h := h' } : ASt).killCells.kill (.tmp (dst.getD 0))).put dst v (o.map fun e => (.tmp (dst.getD 0), e))))
    (hp : ∀ v h', R (.panic v) h' → Q (.panic v) ({ s with h := h' } : ASt).bare) : callA P dst (.func g fst cap) args s K Q :=
  .inl ⟨hb, hc.mono fun ae h' hR => by
    cases ae with
    | ret v o => exact hr v o h' hR
    | panic v => exact hp v h' hR⟩

/-- A call that sees the first boxes alone. -/
theorem call_m {P : Program} {M : Nat} (m : Nat) {dst : Option Nat} {g : FuncId} {fst cap args : List AV} {s : ASt} {K : ASt → Prop} {Q : AExit → ASt → Prop} {R : AEnd → AHeap → Prop} (hM : m ≤ M) (hb : hasBody P g = true) (hm : m ≤ s.h.blocks.length)
    (hbel : ∀ x ∈ fst ++ args ++ cap, Bel m x) (hcl : Closed ⟨s.h.blocks.take m⟩) (hc : ACalls P g (fst ++ args ++ cap) ⟨s.h.blocks.take m⟩ R)
    (hr : ∀ v o h', R (.ret v o) h' → h'.blocks.length = m ∧ K (({ s with h := ⟨h'.blocks ++ s.h.blocks.drop m⟩, cl := fun t => killf (.tmp (dst.getD 0)) (killb m (s.cl t)) } : ASt).put dst v (o.map fun e => (.tmp (dst.getD 0), e))))
    (hp : ∀ v h', R (.panic v) h' → h'.blocks.length = m ∧ Q (.panic v) ({ s with h := ⟨h'.blocks ++ s.h.blocks.drop m⟩ } : ASt).bare) : callM M P dst (.func g fst cap) args s K Q :=
  ⟨m, hM, hb, hm, hbel, hcl, hc.mono fun ae h' hR => by
    cases ae with
    | ret v o => exact hr v o h' hR
    | panic v => exact hp v h' hR⟩
theorem call_fr {P : Program} (m : Nat) {dst : Option Nat} {g : FuncId} {fst cap args : List AV} {s : ASt} {K : ASt → Prop} {Q : AExit → ASt → Prop} {R : AEnd → AHeap → Prop} (hb : hasBody P g = true) (hm : m ≤ s.h.blocks.length)
    (hbel : ∀ x ∈ fst ++ args ++ cap, Bel m x) (hcl : Closed ⟨s.h.blocks.take m⟩) (hc : ACalls P g (fst ++ args ++ cap) ⟨s.h.blocks.take m⟩ R)
    (hr : ∀ v o h', R (.ret v o) h' → h'.blocks.length = m ∧ K (({ s with h := ⟨h'.blocks ++ s.h.blocks.drop m⟩, cl := fun t => killf (.tmp (dst.getD 0)) (killb m (s.cl t)) } : ASt).put dst v (o.map fun e => (.tmp (dst.getD 0), e))))
    (hp : ∀ v h', R (.panic v) h' → h'.blocks.length = m ∧ Q (.panic v) ({ s with h := ⟨h'.blocks ++ s.h.blocks.drop m⟩ } : ASt).bare) : callA P dst (.func g fst cap) args s K Q := by
  obtain ⟨m', _, h⟩ := call_m m (Nat.le_refl m) hb hm hbel hcl hc hr hp
  exact .inr ⟨m', h⟩

/-- A function without effect: whatever boxes there are, it answers this and lets them be. -/
def PC (P : Program) (g : FuncId) (args : List AV) (v : AV) : Prop := ∀ h, ACalls P g args h fun ae h' => ae = .ret v none ∧ h' = h

theorem call_pc {P : Program} {dst : Option Nat} {g : FuncId} {fst cap args : List AV} {s : ASt} {K : ASt → Prop} {Q : AExit → ASt → Prop} {v : AV} {args' : List AV} (hb : hasBody P g = true) (hc : PC P g args' v) (hargs : fst ++ args ++ cap = args') (hbel : ∀ x ∈ fst ++ args ++ cap, Bel 0 x)
    (hk : K ((s.kill (.tmp (dst.getD 0))).put dst v)) : callA P dst (.func g fst cap) args s K Q := by
  subst hargs
  refine call_fr 0 hb (Nat.zero_le _) hbel (by intro k blk hk; simp at hk) (hc ⟨s.h.blocks.take 0⟩) ?_ ?_
  · rintro v' o h' ⟨h1, rfl⟩
    cases h1
    refine ⟨by simp, ?_⟩
    have : ({ s with h := ⟨(⟨s.h.blocks.take 0⟩ : AHeap).blocks ++ s.h.blocks.drop 0⟩, cl := fun t => killf (.tmp (dst.getD 0)) (killb 0 (s.cl t)) } : ASt) = s.kill (.tmp (dst.getD 0)) := by
      simp only [ASt.kill, List.take_zero, List.drop_zero, List.nil_append, ASt.mk.injEq, true_and, and_true]
      funext t
      congr 1
      match s.cl t with
      | none => rfl
      | some (.tmp _, _) => rfl
      | some (.cell k j, e) => simp [killb]
    rw [this]
    exact hk
  · rintro v' h' ⟨h1, _⟩; cases h1

theorem callM_pc {P : Program} {M : Nat} {dst : Option Nat} {g : FuncId} {fst cap args : List AV} {s : ASt} {K : ASt → Prop} {Q : AExit → ASt → Prop} {v : AV} {args' : List AV} (hb : hasBody P g = true) (hc : PC P g args' v) (hargs : fst ++ args ++ cap = args') (hbel : ∀ x ∈ fst ++ args ++ cap, Bel 0 x)
    (hk : K ((s.kill (.tmp (dst.getD 0))).put dst v)) : callM M P dst (.func g fst cap) args s K Q := by
  subst hargs
  refine call_m 0 (Nat.zero_le _) hb (Nat.zero_le _) hbel (by intro k blk hk; simp at hk) (hc ⟨s.h.blocks.take 0⟩) ?_ ?_
  · rintro v' o h' ⟨h1, rfl⟩
    cases h1
    refine ⟨by simp, ?_⟩
    have : ({ s with h := ⟨(⟨s.h.blocks.take 0⟩ : AHeap).blocks ++ s.h.blocks.drop 0⟩, cl := fun t => killf (.tmp (dst.getD 0)) (killb 0 (s.cl t)) } : ASt) = s.kill (.tmp (dst.getD 0)) := by
      simp only [ASt.kill, List.take_zero, List.drop_zero, List.nil_append, ASt.mk.injEq, true_and, and_true]
      funext t
      congr 1
      match s.cl t with
      | none => rfl
      | some (.tmp _, _) => rfl
      | some (.cell k j, e) => simp [killb]
    rw [this]
    exact hk
  · rintro v' h' ⟨h1, _⟩; cases h1

theorem pc_of_body {P : Program} {f : FuncId} {fn : Func} {c : Code} {args : List AV} {v : AV} (hf : P.funcs[f]? = some fn) (hb : fn.body = some c) (hbel : below fn.ntmps c = true) (hargs : args.length ≤ fn.ntmps)
    (hbody : ∀ h : AHeap, Closed h → (∀ x ∈ args, Bel h.blocks.length x) → ac P h.blocks.length c (abodyPost P fn.results.toList h.blocks.length fun ae h' => ae = .ret v none ∧ h' = h) (ASt.enter args h)) : PC P f args v :=
  fun h => of_body hf hb hbel hargs (hbody h)

theorem wrap_ok {x : Int} (h1 : -9223372036854775808 ≤ x) (h2 : x ≤ 9223372036854775807) : IntKind.i64.wrap x = x :=
  Go.IntWalk.i64_in _ ⟨h1, h2⟩

theorem wrap_succ {i : Nat} (h : i < 4611686018427387904) : IntKind.i64.wrap ((i : Int) + 1) = ((i + 1 : Nat) : Int) := by
  rw [wrap_ok] <;> omega

/-- What a call's answer is: at least this is told of it. -/
theorem ACalls.ret_mono {P : Program} {f : FuncId} {args : List AV} {h : AHeap} {R R' : AEnd → AHeap → Prop} (hc : ACalls P f args h R) (hr : ∀ ae h', R ae h' → R' ae h') : ACalls P f args h R' := hc.mono hr

end Go.AW
