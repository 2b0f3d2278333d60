/- The abstract walk: a region that draws its order: orders that need not be walked apart. -/
import Derived.Test.YtijochhhibgcaaaDoorEval
namespace Go.AW

/-- All that an operation does to a frame but for its own temporary. -/
def ASt.turn (s : ASt) (f : Option (Cls × TypeId) → Option (Cls × TypeId)) (h : AHeap) (df : List (FuncId × List AV)) : ASt := { tm := s.tm, cl := fun t => f (s.cl t), h := h, df := df }

theorem turn_put {s : ASt} {d : Nat} {dst : Option Nat} {v u : AV} {c cu : Option (Cls × TypeId)} {f : Option (Cls × TypeId) → Option (Cls × TypeId)} {h : AHeap} {df : List (FuncId × List AV)} (hne : dst ≠ some d) :
    ((s.put (some d) v c).turn f h df).put dst u cu = ((s.turn f h df).put dst u cu).put (some d) v (f c) := by
  cases dst with
  | none =>
    simp only [ASt.put, ASt.turn, ASt.mk.injEq, and_true, true_and]
    funext t; split <;> rfl
  | some e =>
    have hne' : e ≠ d := fun h => hne (by rw [h])
    simp only [ASt.put, ASt.turn, ASt.mk.injEq, and_true]
    constructor
    · funext t
      by_cases h1 : t = d
      · subst h1; simp [Ne.symm hne']
      · simp [h1]
    · funext t
      by_cases h1 : t = d
      · subst h1; simp [Ne.symm hne']
      · simp [h1]

theorem ev_put {s : ASt} {d : Nat} {v : AV} {c : Option (Cls × TypeId)} {x : Operand} (h : x ≠ .tmp d) : (s.put (some d) v c).ev x = s.ev x := by
  cases x with
  | tmp t => have : t ≠ d := fun e => h (by rw [e]); simp [ASt.ev, ASt.put, this]
  | _ => rfl
theorem evc_put {s : ASt} {d : Nat} {v : AV} {c : Option (Cls × TypeId)} {x : Operand} (h : x ≠ .tmp d) : (s.put (some d) v c).evc x = s.evc x := by
  cases x with
  | tmp t => have : t ≠ d := fun e => h (by rw [e]); simp [ASt.evc, ASt.put, this]
  | _ => rfl

/-- 0: it only reckons; 1: it reads a box; 2: it leaves the boxes as they are; 3: the others. -/
def kindOf : Op → Nat
  | .move _ | .assign _ | .pick .. | .build .. | .fieldAddr .. | .field .. | .indexAddr .. | .index .. | .slice .. | .binOp .. | .unOp .. | .convert .. | .makeInterface .. | .makeFunc .. | .extract .. | .nilCheck _ | .typeAssert .. => 0
  | .call c => match c.callee with
    | .builtin .append => 3
    | .builtin _ => 0
    | _ => 3
  | .load .. => 1
  | .buildSlice .. => 2
  | _ => 3

section
variable {P : Program} {ops : Array Oper} {Q : AExit → ASt → Prop} {s : ASt} {K : ASt → Prop}

/-- With a bound: what is called sees no box from there on. -/
def aopX (M : Option Nat) (P : Program) (o : Oper) (s : ASt) (K : ASt → Prop) (Q : AExit → ASt → Prop) : Prop :=
  match M, o.op with
  | some M', .call ⟨.value f, args, _⟩ => ∃ m, m ≤ M' ∧ frameA P m o.dst (s.ev f) (args.toList.map s.ev) s K Q
  | _, _ => aop P o s K Q

def isCallV : Op → Bool
  | .call ⟨.value _, _, _⟩ => true
  | _ => false

theorem aopX_none (o : Oper) : aopX none P o s K Q = aop P o s K Q := rfl
theorem aopX_other {M : Option Nat} {o : Oper} (h : isCallV o.op = false) : aopX M P o s K Q = aop P o s K Q := by
  obtain ⟨dst, op, ty, pos, af, g⟩ := o
  cases M with
  | none => rfl
  | some M =>
    unfold aopX
    split
    · rename_i h1 h2 h3
      simp only at h3
      subst h3
      simp [isCallV] at h
    · rfl

theorem aopX_aop {M : Option Nat} {o : Oper} (h : aopX M P o s K Q) : aop P o s K Q := by
  cases hc : isCallV o.op with
  | false => rwa [aopX_other hc] at h
  | true =>
    cases M with
    | none => exact h
    | some M =>
      obtain ⟨dst, op, ty, pos, af, g⟩ := o
      match op, hc with
      | .call ⟨.value f, args, ts⟩, _ =>
        obtain ⟨m, _, h⟩ := h
        exact .inr ⟨m, h⟩

variable {M : Option Nat}

def exec1 (P : Program) (ops : Array Oper) (Q : AExit → ASt → Prop) (M : Option Nat) (o : Oper) (s : ASt) (K : ASt → Prop) : Prop :=
  match gateA ops s o with
  | some g => if g = true then aopX M P o s K Q else K (s.put o.dst (.tup []))
  | none => False

def loadV (P : Program) (t : TypeId) (x : AV) (h : AHeap) : Option (AV × Option (Cls × TypeId)) :=
  match x, szOf P t, aggOf P t with
    | .ptr k off, some z, some true => (h.row k off z).map fun cs => (.agg (cs.map (·.v)), none)
    | .ptr k off, some _, some false => (h.get k off).map fun c => (c.v, c.o.map fun e => (.cell k off, e))
    | .vptr cs, some z, some true => if z ≤ cs.length then some (.agg (cs.take z), none) else none
    | .vptr cs, some _, some false => cs.head?.map fun c => (c, none)
    | _, _, _ => none

/-- The value of an operation that writes nothing but its temporary. -/
def val1 (P : Program) (ops : Array Oper) (o : Oper) (s : ASt) : Option (AV × Option (Cls × TypeId)) :=
  match gateA ops s o with
  | some true => match o.op with
    | .load t x => loadV P t (s.ev x) s.h
    | op => (pureA P op s.ev).map fun v => (v, (srcOf op).bind s.cl)
  | some false => some (.tup [], none)
  | none => none

theorem loadA_val {dst : Option Nat} {t : TypeId} {x : AV} : loadA P dst t x s K ↔ ∃ u, loadV P t x s.h = some u ∧ K (s.put dst u.1 u.2) := by
  unfold loadA loadV
  generalize szOf P t = z
  generalize aggOf P t = a
  split
  · rename_i k off z
    dsimp only
    generalize s.h.row k off z = r
    cases r <;> simp
  · rename_i k off z
    dsimp only
    generalize s.h.get k off = r
    cases r <;> simp
  · rename_i cs z
    by_cases hz : z ≤ cs.length <;> simp [hz]
  · rename_i cs z
    cases cs <;> simp
  · simp

theorem exec1_val {o : Oper} (hk : kindOf o.op ≤ 1) : exec1 P ops Q M o s K ↔ ∃ u, val1 P ops o s = some u ∧ K (s.put o.dst u.1 u.2) := by
  unfold exec1 val1
  cases hg : gateA ops s o with
  | none => simp
  | some g =>
    cases g with
    | false => simp
    | true =>
      simp only [if_true]
      have hcv : isCallV o.op = false := by
        cases hop : o.op with
        | call c =>
          obtain ⟨callee, args, ts⟩ := c
          cases callee <;> first | rfl | (rw [hop] at hk; simp [kindOf] at hk)
        | _ => rfl
      rw [aopX_other hcv]
      obtain ⟨dst, op, ty, pos, af, g⟩ := o
      simp only at hk ⊢
      have pure : ∀ (r : Option AV) (c : Option (Cls × TypeId)), (match r with | some v => K (s.put dst v c) | none => False) ↔ ∃ u, r.map (fun v => (v, c)) = some u ∧ K (s.put dst u.1 u.2) := by
        intro r c; cases r <;> simp
      cases op with
      | load t x =>
        rw [aop_load]
        exact loadA_val
      | call c =>
        obtain ⟨callee, args, ts⟩ := c
        cases callee with
        | builtin b =>
          have hb : b ≠ .append := by rintro rfl; simp [kindOf] at hk
          have e1 : aop P ⟨dst, .call ⟨.builtin b, args, ts⟩, ty, pos, af, g⟩ s K Q = (match pureA P (.call ⟨.builtin b, args, ts⟩) s.ev with | some v => K (s.put dst v) | none => False) := by
            cases b <;> first | exact absurd rfl hb | rfl
          rw [e1]
          exact pure (pureA P (.call ⟨.builtin b, args, ts⟩) s.ev) none
        | _ => simp [kindOf] at hk
      | move x => simp only [aop]; exact pure (pureA P (.move x) s.ev) ((srcOf (.move x)).bind s.cl)
      | assign x => simp only [aop]; exact pure (pureA P (.assign x) s.ev) ((srcOf (.assign x)).bind s.cl)
      | _ => first | (simp [kindOf] at hk; done) | (simp only [aop]; exact pure _ _)


theorem mem_tmp {d : Nat} {l : List Operand} (h : ∀ x ∈ l, x ≠ .tmp d) {x : Operand} (hx : x ∈ l) : x ≠ .tmp d := h x hx

theorem map_ev {d : Nat} {v : AV} {c : Option (Cls × TypeId)} {l : List Operand} (h : ∀ x ∈ l, x ≠ .tmp d) : l.map (s.put (some d) v c).ev = l.map s.ev :=
  List.map_congr_left fun x hx => ev_put (h x hx)

theorem partsA_put {d : Nat} {v : AV} {c : Option (Cls × TypeId)} {pl : List (Nat × Nat)} : ∀ {l : List (Nat × Operand)}, (∀ p ∈ l, p.2 ≠ .tmp d) → partsA pl (s.put (some d) v c).ev l = partsA pl s.ev l := by
  intro l
  induction l with
  | nil => intro _; rfl
  | cons p l ih =>
    intro h
    obtain ⟨i, x⟩ := p
    simp only [partsA]
    rw [ih (fun q hq => h q (List.mem_cons_of_mem _ hq)), ev_put (h (i, x) (by simp))]

theorem elemsA_put {d n : Nat} {v : AV} {c : Option (Cls × TypeId)} : ∀ {l : List (Nat × Operand)}, (∀ p ∈ l, p.2 ≠ .tmp d) → elemsA n (s.put (some d) v c).ev l = elemsA n s.ev l := by
  intro l
  induction l with
  | nil => intro _; rfl
  | cons p l ih =>
    intro h
    obtain ⟨i, x⟩ := p
    simp only [elemsA]
    rw [ih (fun q hq => h q (List.mem_cons_of_mem _ hq)), ev_put (h (i, x) (by simp))]

theorem opts {d : Nat} {v : AV} {c : Option (Cls × TypeId)} {o : Option Operand} (h : ∀ x ∈ o.toList, x ≠ .tmp d) : o.map (s.put (some d) v c).ev = o.map s.ev := by
  cases o with
  | none => rfl
  | some x => simp only [Option.map_some]; rw [ev_put (h x (by simp))]

theorem pureA_put {d : Nat} {v : AV} {c : Option (Cls × TypeId)} {op : Op} (h : ∀ x ∈ op.operands.toList, x ≠ .tmp d) : pureA P op (s.put (some d) v c).ev = pureA P op s.ev := by
  cases op with
  | build t parts =>
    have h' : ∀ p ∈ parts.toList, p.2 ≠ .tmp d := fun p hp => h p.2 (by simp only [Op.operands]; exact List.mem_map.2 ⟨p, hp, rfl⟩)
    simp only [pureA]
    split
    · congr 1; funext pl; rw [partsA_put h']
    · congr 1; funext n; rw [elemsA_put h']
    · rfl
  | slice t x lo hi mx =>
    cases mx with
    | some m => rfl
    | none =>
      have h1 : x ≠ .tmp d := h x (by simp [Op.operands])
      have h2 : ∀ y ∈ lo.toList, y ≠ .tmp d := fun y hy => h y (by simp [Op.operands] at hy ⊢; exact .inr (.inl hy))
      have h3 : ∀ y ∈ hi.toList, y ≠ .tmp d := fun y hy => h y (by simp [Op.operands] at hy ⊢; exact .inr (.inr hy))
      simp only [pureA, ev_put h1, opts h2, opts h3]
  | makeFunc fn a b =>
    cases fn with
    | func f =>
      simp only [pureA]
      rw [map_ev (fun x hx => h x (by simp [Op.operands] at hx ⊢; exact .inl hx)), map_ev (fun x hx => h x (by simp [Op.operands] at hx ⊢; exact .inr hx))]
    | _ => rfl
  | call cc =>
    obtain ⟨callee, ⟨args⟩, ⟨ts⟩⟩ := cc
    simp only [pureA]
    split
    · rename_i x t
      rw [ev_put (h x (by simp [Op.operands, Call.operands]))]
    · rename_i _ x y
      rw [ev_put (h x (by simp [Op.operands, Call.operands])), ev_put (h y (by simp [Op.operands, Call.operands]))]
    · rename_i _ x y
      rw [ev_put (h x (by simp [Op.operands, Call.operands])), ev_put (h y (by simp [Op.operands, Call.operands]))]
    · rfl
  | pick a b e =>
    simp only [pureA, ev_put (h a (by simp [Op.operands])), ev_put (h b (by simp [Op.operands])), ev_put (h e (by simp [Op.operands]))]
  | binOp op t x y t' =>
    simp only [pureA, ev_put (h x (by simp [Op.operands])), ev_put (h y (by simp [Op.operands]))]
  | indexAddr t x i => simp only [pureA, ev_put (h x (by simp [Op.operands])), ev_put (h i (by simp [Op.operands]))]
  | index t x i => simp only [pureA, ev_put (h x (by simp [Op.operands])), ev_put (h i (by simp [Op.operands]))]
  | move x => simp only [pureA, ev_put (h x (by simp [Op.operands]))]
  | assign x => simp only [pureA, ev_put (h x (by simp [Op.operands]))]
  | fieldAddr t x f => simp only [pureA, ev_put (h x (by simp [Op.operands]))]
  | field t x f => simp only [pureA, ev_put (h x (by simp [Op.operands]))]
  | unOp op t x => simp only [pureA, ev_put (h x (by simp [Op.operands]))]
  | convert a b x => simp only [pureA, ev_put (h x (by simp [Op.operands]))]
  | makeInterface t x => simp only [pureA, ev_put (h x (by simp [Op.operands]))]
  | extract x i => simp only [pureA, ev_put (h x (by simp [Op.operands]))]
  | nilCheck x => simp only [pureA, ev_put (h x (by simp [Op.operands]))]
  | typeAssert x a b ok => simp only [pureA, ev_put (h x (by simp [Op.operands]))]
  | _ => rfl


theorem evs_put {d : Nat} {v : AV} {c : Option (Cls × TypeId)} {l : List Operand} (h : ∀ x ∈ l, x ≠ .tmp d) : l.map (s.put (some d) v c).ev = l.map s.ev := map_ev h

theorem frameA_mono {m : Nat} {dst : Option Nat} {f : AV} {args : List AV} {K' : ASt → Prop} (hK : ∀ s, K s → K' s) (h : frameA P m dst f args s K Q) : frameA P m dst f args s K' Q := by
  unfold frameA at h ⊢
  split at h
  · obtain ⟨h1, h2, h3, h4, h5⟩ := h
    refine ⟨h1, h2, h3, h4, h5.mono fun ae h' hr => ⟨hr.1, ?_⟩⟩
    cases ae with
    | ret v o => exact hK _ hr.2
    | panic v => exact hr.2
  · exact h.elim

theorem aop_mono {o : Oper} {K' : ASt → Prop} (hK : ∀ s, K s → K' s) (h : aop P o s K Q) : aop P o s K' Q := by
  obtain ⟨dst, op, ty, pos, af, g⟩ := o
  cases op with
  | alloc t => simp only [aop] at h ⊢; split at h <;> first | exact hK _ h | exact h.elim
  | box t x => exact ⟨h.1, hK _ h.2⟩
  | load t x =>
    rw [aop_load, loadA_val] at h ⊢
    obtain ⟨u, h1, h2⟩ := h
    exact ⟨u, h1, hK _ h2⟩
  | store t x y =>
    simp only [aop] at h ⊢
    split at h
    · exact ⟨h.1, h.2.1, h.2.2.1, hK _ h.2.2.2⟩
    · exact h.elim
  | buildSlice t n parts =>
    simp only [aop] at h ⊢
    split at h
    · split at h
      · refine ⟨h.1, h.2.1, h.2.2.1, ?_⟩
        have := h.2.2.2
        split at this
        · exact hK _ this
        · exact this.elim
      · exact h.elim
    · exact h.elim
  | call cc =>
    obtain ⟨callee, ⟨args⟩, ⟨ts⟩⟩ := cc
    cases callee with
    | value f =>
      simp only [aop, callA] at h ⊢
      rcases h with h | ⟨m, h⟩
      · left
        unfold callA0 at h ⊢
        split at h
        · refine ⟨h.1, h.2.mono fun ae h' hr => ?_⟩
          cases ae with
          | ret v o => exact hK _ hr
          | panic v => exact hr
        · exact h.elim
      · exact .inr ⟨m, frameA_mono hK h⟩
    | builtin b =>
      by_cases hb : b = .append
      · subst hb
        simp only [aop] at h ⊢
        split at h
        · simp only [appendA] at h ⊢
          split at h
          · refine ⟨h.1, ?_⟩
            have := h.2
            split at this
            · obtain ⟨h1, h2, h3, h4, h5, h6, h7⟩ := this
              exact ⟨h1, h2, h3, h4, h5, h6, hK _ h7⟩
            · exact this.elim
          · exact h.elim
        · exact h.elim
      · have e1 : ∀ K : ASt → Prop, aop P ⟨dst, .call ⟨.builtin b, ⟨args⟩, ⟨ts⟩⟩, ty, pos, af, g⟩ s K Q = (match pureA P (.call ⟨.builtin b, ⟨args⟩, ⟨ts⟩⟩) s.ev with | some v => K (s.put dst v) | none => False) := by
          intro K; cases b <;> first | exact absurd rfl hb | rfl
        rw [e1] at h ⊢
        split at h
        · exact hK _ h
        · exact h.elim
    | invoke r m =>
      have e1 : ∀ K : ASt → Prop, aop P ⟨dst, .call ⟨.invoke r m, ⟨args⟩, ⟨ts⟩⟩, ty, pos, af, g⟩ s K Q = (match pureA P (.call ⟨.invoke r m, ⟨args⟩, ⟨ts⟩⟩) s.ev with | some v => K (s.put dst v) | none => False) := fun _ => rfl
      rw [e1] at h ⊢
      split at h
      · exact hK _ h
      · exact h.elim
  | «defer» cc =>
    obtain ⟨callee, ⟨args⟩, ⟨ts⟩⟩ := cc
    cases callee with
    | value f =>
      simp only [aop, deferA] at h ⊢
      split at h
      · exact hK _ h
      · exact h.elim
    | _ => exact h.elim
  | panic x => exact h
  | _ =>
    simp only [aop] at h ⊢
    split at h <;> first | exact hK _ h | exact h.elim

def isCell : Option (Cls × TypeId) → Prop
  | none => True
  | some (.cell _ _, _) => True
  | _ => False

theorem killf_cell (n : Nat) {c : Option (Cls × TypeId)} (hc : isCell c) : killf (.tmp n) c = c := by
  match c, hc with
  | none, _ => rfl
  | some (.cell k j, e), _ => simp [killf]

/-- Box k stays as it is, and so do its cells' rights. -/
def Stays (h h' : AHeap) (f : Option (Cls × TypeId) → Option (Cls × TypeId)) (k : Nat) : Prop := h'.blocks[k]? = h.blocks[k]? ∧ ∀ j e, f (some (.cell k j, e)) = some (.cell k j, e)

/-- This box is let alone by this operation. -/
def lets (M : Option Nat) (op : Op) (k : Nat) : Prop := kindOf op ≤ 2 ∨ ∃ M', M = some M' ∧ isCallV op = true ∧ M' ≤ k

theorem aop_mono' {o : Oper} {K' : ASt → Prop} (hK : ∀ s, K s → K' s) (h : aopX M P o s K Q) : aopX M P o s K' Q := by
  cases hc : isCallV o.op with
  | false => rw [aopX_other hc] at h ⊢; exact aop_mono hK h
  | true =>
    cases M with
    | none => exact aop_mono hK h
    | some M =>
      obtain ⟨dst, op, ty, pos, af, g⟩ := o
      match op, hc with
      | .call ⟨.value f, args, ts⟩, _ =>
        obtain ⟨m, h1, h⟩ := h
        exact ⟨m, h1, frameA_mono hK h⟩

theorem frameA_frame {o : Oper} {K' : ASt → Prop} {d m : Nat} {v : AV} {c : Option (Cls × TypeId)} {f : AV} {args : List AV}
    (hK : ∀ (f : Option (Cls × TypeId) → Option (Cls × TypeId)) (h' : AHeap) (df : List (FuncId × List AV)) (u : AV) (cu : Option (Cls × TypeId)), f none = none → (∀ k, m ≤ k → Stays s.h h' f k) →
      K (((s.put (some d) v c).turn f h' df).put o.dst u cu) → K' ((s.turn f h' df).put o.dst u cu))
    (h : frameA P m o.dst f args (s.put (some d) v c) K Q) : frameA P m o.dst f args s K' Q := by
  unfold frameA at h ⊢
  split at h
  · obtain ⟨h1, h2, h3, h4, h5⟩ := h
    refine ⟨h1, h2, h3, h4, h5.mono fun ae h' hr => ⟨hr.1, ?_⟩⟩
    cases ae with
    | ret v o' =>
      refine hK (fun x => killf (.tmp (o.dst.getD 0)) (killb m x)) ⟨h'.blocks ++ s.h.blocks.drop m⟩ s.df _ _ rfl (fun k hk => ⟨?_, fun j e => ?_⟩) hr.2
      · rw [List.getElem?_append_right (by omega), List.getElem?_drop]; congr 1; omega
      · simp only [killb]; rw [if_neg (by omega)]; rfl
    | panic v => exact hr.2
  · exact h.elim

theorem aop_frame {o : Oper} {K' : ASt → Prop} {d : Nat} {v : AV} {c : Option (Cls × TypeId)} (hno : ∀ x ∈ o.op.operands.toList, x ≠ .tmp d) (hd : o.dst ≠ some d)
    (hK : ∀ (f : Option (Cls × TypeId) → Option (Cls × TypeId)) (h' : AHeap) (df : List (FuncId × List AV)) (u : AV) (cu : Option (Cls × TypeId)), f none = none → (∀ k, lets M o.op k → Stays s.h h' f k) →
      K (((s.turn f h' df).put o.dst u cu).put (some d) v (f c)) → K' ((s.turn f h' df).put o.dst u cu))
    (h : aopX M P o (s.put (some d) v c) K Q) : aopX M P o s K' Q := by
  obtain ⟨dst, op, ty, pos, af, g⟩ := o
  have go : ∀ (f : Option (Cls × TypeId) → Option (Cls × TypeId)) (h' : AHeap) (df : List (FuncId × List AV)) (u : AV) (cu : Option (Cls × TypeId)), f none = none → (∀ k, lets M op k → Stays s.h h' f k) →
      K (((s.put (some d) v c).turn f h' df).put dst u cu) → K' ((s.turn f h' df).put dst u cu) := by
    intro f h' df u cu h1 h2 h3
    rw [turn_put hd] at h3
    exact hK f h' df u cu h1 h2 h3
  clear hK
  simp only at hno hd
  have e1 : ∀ {x : Operand}, x ∈ op.operands.toList → (s.put (some d) v c).ev x = s.ev x := fun hx => ev_put (hno _ hx)
  have e2 : ∀ {x : Operand}, x ∈ op.operands.toList → (s.put (some d) v c).evc x = s.evc x := fun hx => evc_put (hno _ hx)
  have pure0 : ∀ cu : AV × Option (Cls × TypeId), K ((s.put (some d) v c).put dst cu.1 cu.2) → K' (s.put dst cu.1 cu.2) := fun cu hk => go id s.h s.df cu.1 cu.2 rfl (fun _ _ => ⟨rfl, fun _ _ => rfl⟩) hk
  have no3 : isCallV op = false → kindOf op = 3 → ∀ {f : Option (Cls × TypeId) → Option (Cls × TypeId)} {h' : AHeap}, ∀ k, lets M op k → Stays s.h h' f k := by
    intro h1 h2 f h' k hl
    rcases hl with hl | ⟨_, _, hl, _⟩
    · omega
    · rw [h1] at hl; cases hl
  cases hcv : isCallV op with
  | true =>
    match op, hcv with
    | .call ⟨.value f, ⟨args⟩, ts⟩, _ =>
    have ha : ∀ x ∈ args, x ∈ (Op.call ⟨.value f, ⟨args⟩, ts⟩).operands.toList := by
      intro x hx; simp only [Op.operands, Call.operands]; simp [hx]
    have hf : (s.put (some d) v c).ev f = s.ev f := e1 (by simp [Op.operands, Call.operands])
    have hargs : args.map (s.put (some d) v c).ev = args.map s.ev := map_ev (fun x hx => hno x (ha x hx))
    have fr : ∀ m M', M = some M' → m ≤ M' → frameA P m dst (s.ev f) (args.map s.ev) (s.put (some d) v c) K Q → frameA P m dst (s.ev f) (args.map s.ev) s K' Q := fun m M' hM hm hfr =>
      frameA_frame (o := ⟨dst, .call ⟨.value f, ⟨args⟩, ts⟩, ty, pos, af, g⟩) (fun f' h' df u cu h1 h2 h3 => go f' h' df u cu h1 (fun k hl => h2 k (by
        rcases hl with hl | ⟨M2, hM2, _, hk⟩
        · simp [kindOf] at hl
        · rw [hM] at hM2; cases hM2; omega)) h3) hfr
    cases M with
    | none =>
      have nol : ∀ {f' : Option (Cls × TypeId) → Option (Cls × TypeId)} {h' : AHeap}, ∀ k, lets none (Op.call ⟨.value f, ⟨args⟩, ts⟩) k → Stays s.h h' f' k := by
        intro f' h' k hl
        rcases hl with hl | ⟨_, hl, _⟩
        · simp [kindOf] at hl
        · cases hl
      simp only [aopX, aop, callA, hf, hargs] at h ⊢
      rcases h with h | ⟨m, h⟩
      · left
        unfold callA0 at h ⊢
        split at h
        · refine ⟨h.1, h.2.mono fun ae h' hr => ?_⟩
          cases ae with
          | ret v o => exact go (fun x => killf _ (killc x)) _ s.df _ _ rfl nol hr
          | panic v => exact hr
        · exact h.elim
      · exact .inr ⟨m, frameA_frame (o := ⟨dst, .call ⟨.value f, ⟨args⟩, ts⟩, ty, pos, af, g⟩) (fun f' h' df u cu h1 h2 h3 => go f' h' df u cu h1 nol h3) h⟩
    | some M' =>
      simp only [aopX, hf, hargs] at h ⊢
      obtain ⟨m, h1, h2⟩ := h
      exact ⟨m, h1, fr m M' rfl h1 h2⟩
  | false =>
  rw [aopX_other hcv] at h ⊢
  cases op with
  | alloc t =>
    simp only [aop] at h ⊢
    split at h
    · exact go id _ s.df _ _ rfl (no3 hcv rfl) h
    · exact h.elim
  | box t x =>
    simp only [aop] at h ⊢
    rw [e1 (by simp [Op.operands])] at h
    exact ⟨h.1, go id _ s.df _ _ rfl (no3 hcv rfl) h.2⟩
  | load t x =>
    rw [aop_load, loadA_val] at h ⊢
    rw [e1 (by simp [Op.operands])] at h
    obtain ⟨u, h1, h2⟩ := h
    exact ⟨u, h1, pure0 u h2⟩
  | store t x y =>
    simp only [aop] at h ⊢
    rw [e1 (x := x) (by simp [Op.operands]), e1 (x := y) (by simp [Op.operands]), e2 (x := y) (by simp [Op.operands])] at h
    split at h
    · exact ⟨h.1, h.2.1, h.2.2.1, go (fun x => killTmp (s.evc y) (killRow _ _ _ x)) _ s.df _ _ (by simp only [killRow, killTmp]; split <;> rfl) (no3 hcv rfl) h.2.2.2⟩
    · exact h.elim
  | buildSlice t n parts =>
    have hp : ∀ z, elemsA z (s.put (some d) v c).ev parts.toList = elemsA z s.ev parts.toList := fun z => elemsA_put fun p hp => hno p.2 (by simp only [Op.operands]; exact List.mem_map.2 ⟨p, hp, rfl⟩)
    simp only [aop, hp] at h ⊢
    split at h
    · split at h
      · refine ⟨h.1, h.2.1, h.2.2.1, ?_⟩
        have := h.2.2.2
        split at this
        · exact go (killf _) s.h s.df _ _ rfl (fun k _ => ⟨rfl, fun j e => killf_cell _ (c := some (.cell k j, e)) trivial⟩) this
        · exact this.elim
      · exact h.elim
    · exact h.elim
  | call cc =>
    have pp := pureA_put (P := P) (s := s) (v := v) (c := c) hno
    obtain ⟨callee, ⟨args⟩, ⟨ts⟩⟩ := cc
    have ha : ∀ x ∈ args, x ∈ (Op.call ⟨callee, ⟨args⟩, ⟨ts⟩⟩).operands.toList := by
      intro x hx; simp only [Op.operands, Call.operands]; cases callee <;> simp [hx]
    cases callee with
    | value f => simp [isCallV] at hcv
    | builtin b =>
      by_cases hb : b = .append
      · subst hb
        simp only [aop] at h ⊢
        split at h
        · rename_i _ _ x y t t'
          rw [e1 (x := x) (ha x (by simp)), e1 (x := y) (ha y (by simp)), e2 (x := x) (ha x (by simp))] at h
          simp only [appendA] at h ⊢
          split at h
          · refine ⟨h.1, ?_⟩
            have := h.2
            split at this
            · rename_i es c' ys b z zs _ _ _ _ _
              obtain ⟨h1, h2, h3, h4, h5, h6, h7⟩ := this
              refine ⟨h1, h2, h3, h4, h5, h6, ?_⟩
              cases c' with
              | none => exact go (killf _) s.h s.df _ _ rfl (no3 hcv rfl) h7
              | some cc => exact go (fun x => killf _ (killf cc x)) _ s.df _ _ rfl (no3 hcv rfl) h7
            · exact this.elim
          · exact h.elim
        · exact h.elim
      · have e1 : ∀ (K : ASt → Prop) (s : ASt), aop P ⟨dst, .call ⟨.builtin b, ⟨args⟩, ⟨ts⟩⟩, ty, pos, af, g⟩ s K Q = (match pureA P (.call ⟨.builtin b, ⟨args⟩, ⟨ts⟩⟩) s.ev with | some v => K (s.put dst v) | none => False) := by
          intro K s; cases b <;> first | exact absurd rfl hb | rfl
        rw [e1, pp] at h
        rw [e1]
        split at h
        · exact pure0 (_, none) h
        · exact h.elim
    | invoke r m =>
      have e1 : ∀ (K : ASt → Prop) (s : ASt), aop P ⟨dst, .call ⟨.invoke r m, ⟨args⟩, ⟨ts⟩⟩, ty, pos, af, g⟩ s K Q = (match pureA P (.call ⟨.invoke r m, ⟨args⟩, ⟨ts⟩⟩) s.ev with | some v => K (s.put dst v) | none => False) := fun _ _ => rfl
      rw [e1, pp] at h
      rw [e1]
      split at h
      · exact pure0 (_, none) h
      · exact h.elim
  | «defer» cc =>
    obtain ⟨callee, ⟨args⟩, ⟨ts⟩⟩ := cc
    have ha : ∀ x ∈ args, x ∈ (Op.defer ⟨callee, ⟨args⟩, ⟨ts⟩⟩).operands.toList := by
      intro x hx; simp only [Op.operands, Call.operands]; cases callee <;> simp [hx]
    cases callee with
    | value f =>
      simp only [aop, deferA] at h ⊢
      rw [e1 (x := f) (by simp [Op.operands, Call.operands]), map_ev (fun x hx => hno x (ha x hx))] at h
      split at h
      · exact go id s.h _ _ _ rfl (no3 hcv rfl) h
      · exact h.elim
    | _ => exact h.elim
  | panic x =>
    simp only [aop] at h ⊢
    rw [e1 (by simp [Op.operands])] at h
    exact h
  | move x =>
    have hx : (srcOf (.move x)).bind (s.put (some d) v c).cl = (srcOf (.move x)).bind s.cl := e2 (x := x) (by simp [Op.operands]) |> fun e => by cases x <;> first | rfl | exact e
    have pp := pureA_put (P := P) (s := s) (v := v) (c := c) hno
    simp only [aop] at h ⊢
    rw [pp, hx] at h
    split at h
    · exact pure0 (_, _) h
    · exact h.elim
  | assign x =>
    have hx : (srcOf (.assign x)).bind (s.put (some d) v c).cl = (srcOf (.assign x)).bind s.cl := e2 (x := x) (by simp [Op.operands]) |> fun e => by cases x <;> first | rfl | exact e
    have pp := pureA_put (P := P) (s := s) (v := v) (c := c) hno
    simp only [aop] at h ⊢
    rw [pp, hx] at h
    split at h
    · exact pure0 (_, _) h
    · exact h.elim
  | _ =>
    have pp := pureA_put (P := P) (s := s) (v := v) (c := c) hno
    simp only [aop] at h ⊢
    rw [pp] at h
    split at h
    · exact pure0 (_, _) h
    · exact h.elim


theorem exec1_mono {o : Oper} {K' : ASt → Prop} (hK : ∀ s, K s → K' s) (h : exec1 P ops Q M o s K) : exec1 P ops Q M o s K' := by
  unfold exec1 at *
  cases hg : gateA ops s o with
  | none => simp only [hg] at h
  | some g =>
    simp only [hg] at h ⊢
    cases g with
    | true => simp only [if_true] at h ⊢; exact aop_mono' hK h
    | false => simp only [Bool.false_eq_true, if_false] at h ⊢; exact hK _ h

/-- What an operation looks at, and its guard. -/
theorem mem_looks {o : Oper} {d : Nat} (h : d ∉ o.looksAt ops) : ∀ x ∈ o.op.operands.toList, x ≠ .tmp d := by
  intro x hx e
  subst e
  exact h (List.mem_append_left _ (List.mem_filterMap.2 ⟨.tmp d, hx, rfl⟩))

theorem gate_looks {o : Oper} {d : Nat} (h : d ∉ o.looksAt ops) {s s' : ASt} (ht : ∀ t, t ≠ d → s'.tm t = s.tm t) : gateA ops s' o = gateA ops s o := by
  unfold gateA
  cases hg : o.guard with
  | none => rfl
  | some gw =>
    obtain ⟨g, want⟩ := gw
    cases ht' : (ops[g]?).bind (·.dst) with
    | none => simp only [ht']
    | some t =>
      have hne : t ≠ d := fun e => h (by subst e; simp [Oper.looksAt, hg, ht'])
      simp only [ht', ht t hne]

theorem tm_put_ne {d : Nat} {v : AV} {c : Option (Cls × TypeId)} : ∀ t, t ≠ d → (s.put (some d) v c).tm t = s.tm t := by
  intro t ht; simp [ASt.put, ht]

theorem tm_turn_put {f : Option (Cls × TypeId) → Option (Cls × TypeId)} {h : AHeap} {df : List (FuncId × List AV)} {dst : Option Nat} {u : AV} {cu : Option (Cls × TypeId)} :
    ∀ t, dst ≠ some t → ((s.turn f h df).put dst u cu).tm t = s.tm t := by
  intro t ht
  cases dst with
  | none => rfl
  | some e => simp only [ASt.put, ASt.turn]; rw [if_neg (fun h => ht (by rw [h]))]

/-- Its value, from another frame. -/
theorem val1_turn {o : Oper} {f : Option (Cls × TypeId) → Option (Cls × TypeId)} {h : AHeap} {df : List (FuncId × List AV)} {dst : Option Nat} {u : AV} {cu : Option (Cls × TypeId)} {v : AV} {c : Option (Cls × TypeId)}
    (hk : kindOf o.op ≤ 1) (hl : ∀ t x k off, o.op = .load t x → s.ev x = .ptr k off → Stays s.h h f k) (hf : f none = none) (hd : ∀ d, dst = some d → d ∉ o.looksAt ops)
    (hv : val1 P ops o s = some (v, c)) : val1 P ops o ((s.turn f h df).put dst u cu) = some (v, f c) := by
  have hgate : gateA ops ((s.turn f h df).put dst u cu) o = gateA ops s o := by
    cases dst with
    | none => rfl
    | some d => exact gate_looks (hd d rfl) fun t ht => tm_turn_put t (fun e => ht (by cases e; rfl))
  have hev : ∀ x ∈ o.op.operands.toList, ((s.turn f h df).put dst u cu).ev x = s.ev x := by
    intro x hx
    cases dst with
    | none => cases x <;> rfl
    | some d => rw [ev_put (mem_looks (hd d rfl) x hx)]; cases x <;> rfl
  have hpure : pureA P o.op ((s.turn f h df).put dst u cu).ev = pureA P o.op s.ev := by
    cases dst with
    | none => rfl
    | some d => rw [pureA_put (mem_looks (hd d rfl))]; rfl
  have hcl : ∀ x ∈ o.op.operands.toList, ((s.turn f h df).put dst u cu).evc x = f (s.evc x) := by
    intro x hx
    cases dst with
    | none => cases x <;> first | rfl | exact hf.symm
    | some d => rw [evc_put (mem_looks (hd d rfl) x hx)]; cases x <;> first | rfl | exact hf.symm
  unfold val1 at hv ⊢
  rw [hgate]
  cases hg : gateA ops s o with
  | none => simp [hg] at hv
  | some g =>
    cases g with
    | false =>
      simp only [hg, Option.some.injEq, Prod.mk.injEq] at hv ⊢
      exact ⟨hv.1, by rw [← hv.2]; exact hf.symm⟩
    | true =>
      simp only [hg] at hv ⊢
      obtain ⟨dst', op, ty, pos, af, g⟩ := o
      simp only at hk hl hv hev hpure hcl ⊢
      have pure : ∀ (r : Option AV), r.map (fun v => (v, (none : Option (Cls × TypeId)))) = some (v, c) → r.map (fun v => (v, (none : Option (Cls × TypeId)))) = some (v, f c) := by
        intro r hr
        cases r with
        | none => cases hr
        | some w => simp only [Option.map_some, Option.some.injEq, Prod.mk.injEq] at hr ⊢; exact ⟨hr.1, by rw [← hr.2]; exact hf.symm⟩
      cases op with
      | load t x =>
        have hst := fun k off => hl t x k off rfl
        clear hl
        simp only at hv ⊢
        have hhh : ((s.turn f h df).put dst u cu).h = h := by cases dst <;> rfl
        rw [hev x (by simp [Op.operands]), hhh]
        generalize s.ev x = y at hv hst
        unfold loadV at hv ⊢
        split at hv
        · rename_i k off z _ _
          have h1 := (hst k off rfl).1
          skip
          cases hr : s.h.row k off z with
          | none => simp [hr] at hv
          | some cs =>
            have hr' : h.row k off z = some cs := by rw [← hr]; simp only [AHeap.row, h1]
            simp only [hr, hr', Option.map_some, Option.some.injEq, Prod.mk.injEq] at hv ⊢
            exact ⟨hv.1, by rw [← hv.2]; exact hf.symm⟩
        · rename_i k off z _ _
          obtain ⟨h1, h2⟩ := hst k off rfl
          skip
          cases hr : s.h.get k off with
          | none => simp [hr] at hv
          | some cc =>
            have hr' : h.get k off = some cc := by rw [← hr]; simp only [AHeap.get, h1]
            simp only [hr, hr', Option.map_some, Option.some.injEq, Prod.mk.injEq] at hv ⊢
            refine ⟨hv.1, ?_⟩
            rw [← hv.2]
            cases cc.o with
            | none => exact hf.symm
            | some e => exact (h2 off e).symm
        · skip
          split at hv
          · rename_i hz; rw [if_pos hz]; cases hv; rw [hf]
          · cases hv
        · rename_i cs z _ _
          skip
          cases cs with
          | nil => simp at hv
          | cons a l => simp at hv ⊢; exact ⟨hv.1, by rw [← hv.2]; exact hf.symm⟩
        · cases hv
      | move x =>
        simp only at hv ⊢
        rw [hpure]
        have e1 : ∀ s : ASt, (srcOf (.move x)).bind s.cl = s.evc x := by intro s; cases x <;> rfl
        simp only [e1] at hv ⊢
        rw [hcl x (by simp [Op.operands])]
        simp only [pureA, Option.map_some, Option.some.injEq, Prod.mk.injEq] at hv ⊢
        exact ⟨hv.1, by rw [hv.2]⟩
      | assign x =>
        simp only at hv ⊢
        rw [hpure]
        have e1 : ∀ s : ASt, (srcOf (.assign x)).bind s.cl = s.evc x := by intro s; cases x <;> rfl
        simp only [e1] at hv ⊢
        rw [hcl x (by simp [Op.operands])]
        simp only [pureA, Option.map_some, Option.some.injEq, Prod.mk.injEq] at hv ⊢
        exact ⟨hv.1, by rw [hv.2]⟩
      | _ =>
        simp only at hv ⊢
        rw [hpure]
        exact pure _ hv

/-- What this operation reads is let alone by that one. -/
def Held (M : Option Nat) (oi oj : Oper) (s : ASt) : Prop := ∀ t x k off, oi.op = .load t x → s.ev x = .ptr k off → lets M oj.op k

theorem exec1_swap {oi oj : Oper} {d : Nat} {v : AV} {c : Option (Cls × TypeId)} (hd : oi.dst = some d) (hk : kindOf oi.op ≤ 1) (hap : oi.apart ops oj = true) (hkj : Held M oi oj s)
    (hv : val1 P ops oi s = some (v, c)) (h : exec1 P ops Q M oj (s.put (some d) v c) K) :
    exec1 P ops Q M oj s fun s' => (∀ x ∈ oi.op.operands.toList, s'.ev x = s.ev x) ∧ ∃ u, val1 P ops oi s' = some u ∧ K (s'.put (some d) u.1 u.2) := by
  obtain ⟨h1, h2, h3⟩ := Oper.apart_spec hap
  have hn := h1 d hd
  have hev : ∀ {f : Option (Cls × TypeId) → Option (Cls × TypeId)} {h' : AHeap} {df : List (FuncId × List AV)} {u : AV} {cu : Option (Cls × TypeId)}, ∀ x ∈ oi.op.operands.toList, ((s.turn f h' df).put oj.dst u cu).ev x = s.ev x := by
    intro f h' df u cu x hx
    cases hdj : oj.dst with
    | none => cases x <;> rfl
    | some e => rw [ev_put (mem_looks (h3 e hdj) x hx)]; cases x <;> rfl
  unfold exec1 at h ⊢
  rw [gate_looks hn (tm_put_ne)] at h
  cases hg : gateA ops s oj with
  | none => simp only [hg] at h
  | some g =>
    simp only [hg] at h ⊢
    cases g with
    | true =>
      simp only [if_true] at h ⊢
      refine aop_frame (mem_looks hn) (h2 d hd) (fun f h' df u cu hf hl hk' => ?_) h
      refine ⟨hev, (v, f c), val1_turn hk (fun t x k off e1 e2 => hl k (hkj t x k off e1 e2)) hf h3 hv, hk'⟩
    | false =>
      simp only [Bool.false_eq_true, if_false] at h ⊢
      refine ⟨hev (f := id) (h' := s.h) (df := s.df), (v, c), ?_, ?_⟩
      · exact val1_turn (f := id) (h := s.h) (df := s.df) hk (fun _ _ _ _ _ _ => ⟨rfl, fun _ _ => rfl⟩) rfl h3 hv
      · have := turn_put (s := s) (d := d) (dst := oj.dst) (v := v) (u := .tup []) (c := c) (cu := none) (f := id) (h := s.h) (df := s.df) (h2 d hd)
        have h4 : (s.put (some d) v c).put oj.dst (.tup []) = (s.put oj.dst (.tup [])).put (some d) v c := this
        rw [← h4]; exact h

/-- One operation, by its number. -/
def execI (P : Program) (ops : Array Oper) (Q : AExit → ASt → Prop) (M : Option Nat) (i : Nat) (s : ASt) (K : ASt → Prop) : Prop := match ops[i]? with
  | none => K s
  | some o => exec1 P ops Q M o s K

theorem aops_cons (i : Nat) (rest : List Nat) (h : execI P ops Q M i s (aops P ops Q rest)) : aops P ops Q (i :: rest) s := by
  cases ho : ops[i]? with
  | none => simp only [execI, ho] at h; simp only [aops, ho]; exact h
  | some o =>
    simp only [execI, ho, exec1] at h
    simp only [aops, ho]
    cases hg : gateA ops s o with
    | none => simp only [hg] at h
    | some g =>
      simp only [hg] at h ⊢
      cases g with
      | true => simp only [if_true] at h ⊢; exact aopX_aop h
      | false => simpa using h

theorem execI_mono {i : Nat} {K' : ASt → Prop} (hK : ∀ s, K s → K' s) (h : execI P ops Q M i s K) : execI P ops Q M i s K' := by
  unfold execI at *
  split
  · simp only [*] at h; exact hK _ h
  · simp only [*] at h; exact exec1_mono hK h

/-- In any order that the edges let. -/
def anyA (P : Program) (ops : Array Oper) (Q : AExit → ASt → Prop) (M : Option Nat) : Nat → Array Bool → ASt → Prop
  | 0, listed, s => Region.ready .any ops listed = [] ∧ Q .normal s
  | fuel + 1, listed, s => (Region.ready .any ops listed = [] → Q .normal s) ∧ ∀ i ∈ Region.ready .any ops listed, execI P ops Q M i s (anyA P ops Q M fuel (listed.setIfInBounds i true))

theorem anyA_sound : ∀ (fuel t : Nat) (listed : Array Bool) (s : ASt), anyA P ops Q M fuel listed s → aops P ops Q (Region.linearise.go .any ops fuel t listed []) s := by
  intro fuel
  induction fuel with
  | zero => intro t listed s h; simpa [Region.linearise.go, aops] using h.2
  | succ fuel ih =>
    intro t listed s h
    obtain ⟨h₀, h₁⟩ := h
    simp only [Region.linearise.go]
    change aops P ops Q (match (Region.ready .any ops listed)[t % (Region.ready .any ops listed).length]? with
      | some i => Region.linearise.go .any ops fuel (t / (Region.ready .any ops listed).length) (listed.setIfInBounds i true) [i]
      | none => [].reverse) s
    cases hi : (Region.ready .any ops listed)[t % (Region.ready .any ops listed).length]? with
    | none =>
      have hnil : Region.ready .any ops listed = [] := by
        cases hr : Region.ready .any ops listed with
        | nil => rfl
        | cons x xs =>
          rw [hr] at hi
          have hlt : t % (x :: xs).length < (x :: xs).length := Nat.mod_lt _ (by simp)
          simp at hi
          simp at hlt
          omega
      simpa [aops] using h₀ hnil
    | some i =>
      simp only []
      rw [linearise_go_acc, List.reverse_singleton, List.singleton_append]
      refine aops_cons i _ (M := M) ?_
      exact execI_mono (fun s => ih _ _ s) (h₁ i (List.mem_of_getElem? hi))

/-- Does the operation stand behind i, by at most n steps? -/
def behindA (ops : Array Oper) (i : Nat) : Nat → Oper → Bool
  | 0, _ => false
  | n + 1, o => o.after.any fun e => Region.binds .any e && (Nat.beq e.on i || match ops[e.on]? with
    | some ok => behindA ops i n ok
    | none => false)

/-- May the second be turned with the first, whatever is the case ('hold': if what the first reads is let alone)? -/
def pairA (hold : Bool) (oi oj : Oper) : Bool := Nat.beq (kindOf oi.op) 0 || Nat.ble (kindOf oj.op) 2 || (hold && isCallV oj.op)

/-- This operation may go first. -/
def freeA (hold : Bool) (ops : Array Oper) (listed : Array Bool) (i : Nat) : Bool :=
  match ops[i]? with
  | none => false
  | some oi => oi.dst.isSome && Nat.ble (kindOf oi.op) 1 && (List.range ops.size).all fun j => Nat.beq j i || listed.getD j true || match ops[j]? with
      | some oj => oj.after.any (fun e => Region.binds .any e && Nat.beq e.on i) || (oi.apart ops oj && pairA hold oi oj) || behindA ops i 4 oj
      | none => true

/-- What is listed stands behind what is listed. -/
def DownA (ops : Array Oper) (listed : Array Bool) : Prop := ∀ k ok, ops[k]? = some ok → listed.getD k false = true → ∀ e ∈ ok.after, Region.binds .any e = true → listed.getD e.on false = true

theorem DownA.set {ops : Array Oper} {listed : Array Bool} (h : DownA ops listed) {j : Nat} (hj : j ∈ Region.ready .any ops listed) : DownA ops (listed.setIfInBounds j true) := by
  have up : ∀ x, listed.getD x false = true → (listed.setIfInBounds j true).getD x false = true := fun x hx => by
    by_cases hjx : j = x
    · subst hjx
      rcases Nat.lt_or_ge j listed.size with h' | h'
      · simp [h']
      · simp [Array.getElem?_eq_none h'] at hx
    · rw [getD_set_ne false hjx]; exact hx
  obtain ⟨_, oj, hoj, hall⟩ := mem_ready.1 hj
  intro k ok hk hl e he hb
  by_cases hjk : j = k
  · subst hjk
    rw [hoj] at hk
    cases hk
    exact up _ (hall e he hb)
  · rw [getD_set_ne false hjk] at hl
    exact up _ (h k ok hk hl e he hb)

/-- What may go before i does not stand behind it. -/
theorem not_behind {listed : Array Bool} (hd : DownA ops listed) {i : Nat} (hi : listed.getD i true = false) : ∀ (n : Nat) (o : Oper), (∀ e ∈ o.after, Region.binds .any e = true → listed.getD e.on false = true) → behindA ops i n o = false := by
  intro n
  induction n with
  | zero => intro o _; rfl
  | succ n ih =>
    intro o h
    cases hb : behindA ops i (n + 1) o with
    | false => rfl
    | true =>
      simp only [behindA] at hb
      obtain ⟨e, he, hb⟩ := Array.any_eq_true'.1 hb
      simp only [Bool.and_eq_true, Bool.or_eq_true] at hb
      obtain ⟨h1, h2⟩ := hb
      have hl := h e he h1
      rcases h2 with h2 | h2
      · have := Nat.eq_of_beq_eq_true h2
        subst this
        rcases Nat.lt_or_ge e.on listed.size with h' | h'
        · simp [h'] at hi hl; rw [hl] at hi; cases hi
        · simp [Array.getElem?_eq_none h'] at hl
      · split at h2
        · rename_i ok hok
          rw [ih ok fun e2 he2 hb2 => hd e.on ok hok hl e2 he2 hb2] at h2
          cases h2
        · cases h2

/-- What is read is let alone by all that is called. -/
def Steady (M : Option Nat) (oi : Oper) (s : ASt) : Prop := ∀ t x k off, oi.op = .load t x → s.ev x = .ptr k off → ∃ M', M = some M' ∧ M' ≤ k

theorem held_of {oi oj : Oper} {hold : Bool} (hs : hold = true → Steady M oi s) (h : pairA hold oi oj = true) : Held M oi oj s := by
  intro t x k off e1 e2
  simp only [pairA, Bool.or_eq_true, Bool.and_eq_true] at h
  rcases h with (h | h) | ⟨h1, h2⟩
  · rw [e1] at h; simp [kindOf] at h
  · exact .inl (Nat.le_of_ble_eq_true h)
  · obtain ⟨M', hM, hle⟩ := hs h1 t x k off e1 e2
    exact .inr ⟨M', hM, h2, hle⟩

theorem anyA_first {i : Nat} {oi : Oper} {d : Nat} {hold : Bool} (hi : ops[i]? = some oi) (hd : oi.dst = some d) (hk : kindOf oi.op ≤ 1) :
    ∀ (fuel : Nat) (listed : Array Bool) (s : ASt) (v : AV) (c : Option (Cls × TypeId)),
      (∀ j oj, ops[j]? = some oj → j ≠ i → listed.getD j true = false → behindA ops i 4 oj = false → oi.apart ops oj = true ∧ pairA hold oi oj = true) → DownA ops listed →
      i ∈ Region.ready .any ops listed → (hold = true → Steady M oi s) → val1 P ops oi s = some (v, c) →
      anyA P ops Q M fuel (listed.setIfInBounds i true) (s.put (some d) v c) → anyA P ops Q M (fuel + 1) listed s := by
  have start : ∀ (s : ASt) (v : AV) (c : Option (Cls × TypeId)) (K : ASt → Prop), val1 P ops oi s = some (v, c) → K (s.put (some d) v c) → execI P ops Q M i s K := by
    intro s v c K hv hK
    unfold execI
    rw [hi]
    exact (exec1_val hk).2 ⟨(v, c), hv, by rw [hd]; exact hK⟩
  intro fuel
  induction fuel with
  | zero =>
    intro listed s v c _ _ hr _ hy H
    refine ⟨fun h => (by rw [h] at hr; cases hr), fun j hj => ?_⟩
    by_cases hji : j = i
    · subst hji; exact start s v c _ hy H
    · have := ready_mono hj hji
      rw [H.1] at this
      cases this
  | succ fuel ih =>
    intro listed s v c hfree hdown hr hst hy H
    refine ⟨fun h => (by rw [h] at hr; cases hr), fun j hj => ?_⟩
    by_cases hji : j = i
    · subst hji; exact start s v c _ hy H
    · have h1 := H.2 j (ready_mono hj hji)
      obtain ⟨hjun, oj, hoj, hall⟩ := mem_ready.1 hj
      have hnot : ∀ e ∈ oj.after, Region.binds .any e = true → e.on ≠ i := fun e he hb heq => by
        have h1 := hall e he hb
        have h0 := (mem_ready.1 hr).1
        rw [heq] at h1
        rcases Nat.lt_or_ge i listed.size with h' | h'
        · simp [h'] at h0 h1; rw [h0] at h1; cases h1
        · simp [Array.getElem?_eq_none h'] at h1
      have hnot2 : behindA ops i 4 oj = false := not_behind hdown (mem_ready.1 hr).1 4 oj hall
      obtain ⟨hap, hkj⟩ := hfree j oj hoj hji hjun hnot2
      have h1' : exec1 P ops Q M oj (s.put (some d) v c) (anyA P ops Q M fuel ((listed.setIfInBounds i true).setIfInBounds j true)) := by
        unfold execI at h1; rwa [hoj] at h1
      have h2 := exec1_swap hd hk hap (held_of hst hkj) hy h1'
      have hfree' : ∀ k ok, ops[k]? = some ok → k ≠ i → (listed.setIfInBounds j true).getD k true = false →
          behindA ops i 4 ok = false → oi.apart ops ok = true ∧ pairA hold oi ok = true := fun k ok hk hki hun hno => by
        refine hfree k ok hk hki ?_ hno
        by_cases hjk : j = k
        · subst hjk; exact hjun
        · rw [getD_set_ne true hjk] at hun; exact hun
      unfold execI
      rw [hoj]
      refine exec1_mono (fun s' h3 => ?_) h2
      obtain ⟨hev, ⟨v', c'⟩, hv', hK'⟩ := h3
      refine ih (listed.setIfInBounds j true) s' v' c' hfree' (hdown.set hj) (ready_mono hr (Ne.symm hji)) (fun hh t x k off e1 e2 => hst hh t x k off e1 ?_) hv' ?_
      · rw [← e2]; exact (hev x (by rw [e1]; simp [Op.operands])).symm
      · rw [Array.setIfInBounds_comm _ _ hji]
        exact hK'

/-- Orders to which all come down. -/
inductive Plan where
  | done
  | step (i : Nat) (p : Plan)
  | hold (i : Nat) (p : Plan)
  | alt (a b : Plan)

def steadyA (M : Option Nat) (o : Oper) (s : ASt) : Prop := match o.op, M with
  | .load _ x, some M' => match s.ev x with
    | .ptr k _ => M' ≤ k
    | _ => True
  | _, _ => False

theorem steadyA_spec {o : Oper} (h : steadyA M o s) : Steady M o s := by
  intro t x k off e1 e2
  unfold steadyA at h
  rw [e1] at h
  cases M with
  | none => exact h.elim
  | some M' => simp only [e2] at h; exact ⟨M', rfl, h⟩

def planA (P : Program) (ops : Array Oper) (Q : AExit → ASt → Prop) (M : Option Nat) : Plan → ASt → Prop
  | .done, s => Q .normal s
  | .step i p, s => execI P ops Q M i s (planA P ops Q M p)
  | .hold i p, s => (match ops[i]? with | some o => steadyA M o s | none => False) ∧ execI P ops Q M i s (planA P ops Q M p)
  | .alt a b, s => planA P ops Q M a s ∧ planA P ops Q M b s

def altA (F : Nat → Option Plan) : List Nat → Option Plan
  | [] => none
  | [i] => (F i).map (.step i ·)
  | i :: r => match F i, altA F r with
    | some a, some b => some (.alt (.step i a) b)
    | _, _ => none

theorem altA_spec {F : Nat → Option Plan} : ∀ {rs : List Nat} {p : Plan}, altA F rs = some p → ∀ i ∈ rs, ∃ a, F i = some a ∧ ∀ s, planA P ops Q M p s → planA P ops Q M (.step i a) s := by
  intro rs
  induction rs with
  | nil => intro p _ i hi; cases hi
  | cons j r ih =>
    intro p h i hi
    cases r with
    | nil =>
      simp only [altA] at h
      obtain ⟨a, h1, rfl⟩ := Option.map_eq_some_iff.1 h
      have : i = j := by simpa using hi
      subst this
      exact ⟨a, h1, fun s hs => hs⟩
    | cons k r =>
      simp only [altA] at h
      split at h
      · rename_i a b h1 h2
        cases h
        rcases List.mem_cons.1 hi with rfl | hi
        · exact ⟨a, h1, fun s hs => hs.1⟩
        · obtain ⟨a', h3, h4⟩ := ih h2 i hi
          exact ⟨a', h3, fun s hs => h4 s hs.2⟩
      · cases h

def planOf (hold : Bool) (ops : Array Oper) : Nat → Array Bool → Option Plan
  | 0, listed => if (Region.ready .any ops listed).isEmpty then some .done else none
  | fuel + 1, listed => if (Region.ready .any ops listed).isEmpty then some .done else
      match (Region.ready .any ops listed).find? (freeA false ops listed) with
      | some i => (planOf hold ops fuel (listed.setIfInBounds i true)).map (.step i ·)
      | none => match if hold = true then (Region.ready .any ops listed).find? (freeA true ops listed) else none with
        | some i => (planOf hold ops fuel (listed.setIfInBounds i true)).map (.hold i ·)
        | none => altA (fun i => planOf hold ops fuel (listed.setIfInBounds i true)) (Region.ready .any ops listed)

theorem freeA_spec {i : Nat} {hold : Bool} {listed : Array Bool} (h : freeA hold ops listed i = true) : ∃ oi d, ops[i]? = some oi ∧ oi.dst = some d ∧ kindOf oi.op ≤ 1 ∧
    ∀ j oj, ops[j]? = some oj → j ≠ i → listed.getD j true = false → behindA ops i 4 oj = false → oi.apart ops oj = true ∧ pairA hold oi oj = true := by
  unfold freeA at h
  split at h
  · cases h
  · rename_i oi hi
    simp only [Bool.and_eq_true, List.all_eq_true, List.mem_range] at h
    obtain ⟨⟨h1, h2⟩, h3⟩ := h
    obtain ⟨d, hd⟩ := Option.isSome_iff_exists.1 h1
    refine ⟨oi, d, hi, hd, Nat.le_of_ble_eq_true h2, fun j oj hj hne hun hno => ?_⟩
    have h4 := h3 j (Array.getElem?_eq_some_iff.1 hj).1
    simp only [hj, Bool.or_eq_true, hun, Bool.false_eq_true, Bool.and_eq_true] at h4
    rcases h4 with (h4 | h4) | h4
    · exact absurd (Nat.eq_of_beq_eq_true h4) hne
    · cases h4
    · rcases h4 with (h4 | h4) | h4
      · have : behindA ops i 4 oj = true := by
          obtain ⟨e, he, hb⟩ := Array.any_eq_true'.1 h4
          simp only [Bool.and_eq_true] at hb
          simp only [behindA]
          exact Array.any_eq_true'.2 ⟨e, he, by simp only [hb.1, hb.2, Bool.true_or, Bool.and_self]⟩
        rw [hno] at this; cases this
      · exact h4
      · rw [hno] at h4; cases h4

theorem planOf_sound {hold : Bool} : ∀ (fuel : Nat) (listed : Array Bool) (p : Plan) (s : ASt), DownA ops listed → planOf hold ops fuel listed = some p → planA P ops Q M p s → anyA P ops Q M fuel listed s := by
  intro fuel
  induction fuel with
  | zero =>
    intro listed p s hdn h hl
    simp only [planOf] at h
    split at h
    · rename_i he
      cases h
      exact ⟨by simpa using he, hl⟩
    · cases h
  | succ fuel ih =>
    intro listed p s hdn h hl
    simp only [planOf] at h
    split at h
    · rename_i he
      cases h
      have he' : Region.ready .any ops listed = [] := by simpa using he
      exact ⟨fun _ => hl, fun i hi => by rw [he'] at hi; cases hi⟩
    · rename_i hne
      have hne' : Region.ready .any ops listed ≠ [] := by simpa using hne
      split at h
      · rename_i i hf
        obtain ⟨oi, d, hi, hd, hk, hfree⟩ := freeA_spec (List.find?_some hf)
        obtain ⟨p', hp', rfl⟩ := Option.map_eq_some_iff.1 h
        simp only [planA, execI, hi] at hl
        obtain ⟨u, hv, h2⟩ := (exec1_val hk).1 hl
        rw [hd] at h2
        exact anyA_first hi hd hk fuel listed s u.1 u.2 hfree hdn (List.mem_of_find?_eq_some hf) (by simp) hv (ih _ _ _ (hdn.set (List.mem_of_find?_eq_some hf)) hp' h2)
      · split at h
        · rename_i i hf
          split at hf
          · obtain ⟨oi, d, hi, hd, hk, hfree⟩ := freeA_spec (List.find?_some hf)
            obtain ⟨p', hp', rfl⟩ := Option.map_eq_some_iff.1 h
            simp only [planA, execI, hi] at hl
            obtain ⟨hst, hl⟩ := hl
            obtain ⟨u, hv, h2⟩ := (exec1_val hk).1 hl
            rw [hd] at h2
            exact anyA_first hi hd hk fuel listed s u.1 u.2 hfree hdn (List.mem_of_find?_eq_some hf) (fun _ => steadyA_spec hst) hv (ih _ _ _ (hdn.set (List.mem_of_find?_eq_some hf)) hp' h2)
          · cases hf
        · refine ⟨fun h => absurd h hne', fun i hi => ?_⟩
          obtain ⟨a, h1, h2⟩ := altA_spec (P := P) (Q := Q) (M := M) h i hi
          exact execI_mono (fun s' => ih _ _ s' (hdn.set hi) h1) (h2 s hl)

end

/-- A region that draws its order is walked in the orders of its plan ('M': what is called in it sees no box from there on). -/
theorem region_plan {P : Program} {n0 : Nat} {Q : AExit → ASt → Prop} {s : ASt} {id : Nat} {ops : Array Oper} (M : Option Nat) (p : Plan) (hm : P.follows .mixedOrders = true) (hp : planOf M.isSome ops ops.size (Array.replicate ops.size false) = some p)
    (h : planA P ops Q M p s) : ac P n0 (.region id ops true) Q s := by
  rw [ac_eq]
  simp only [acode, if_true]
  intro t
  simp only [Region.schedule, hm, Bool.true_or, if_true]
  refine anyA_sound ops.size t _ s (planOf_sound _ _ _ _ (fun k ok hk hl e he hb => ?_) hp h)
  have hlt := (Array.getElem?_eq_some_iff.1 hk).1
  rw [Array.getD_eq_getD_getElem?, Array.getElem?_replicate, if_pos hlt] at hl
  cases hl

end Go.AW
