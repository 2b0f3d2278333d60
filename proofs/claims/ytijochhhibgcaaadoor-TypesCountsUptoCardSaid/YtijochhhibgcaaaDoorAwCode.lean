/- The abstract walk, third part: whole bodies, drawn orders of evaluation and loops, shown sound. -/
import Derived.Test.YtijochhhibgcaaaDoorAwOps
import Derived.Deep.LoopGhost
section
namespace Go.AW
section
variable {P : Program} {κ κ' κ0 : List Nat} {S S' S0 F : Nat → Nat → Prop} {w w' w0 : World} {s : ASt} {a : Act} {ρ ρ' : Cls → Option (Value × TypeId)} {h h' : AHeap}
  {Q : AExit → ASt → Prop} {N : Nat}

theorem gate_sound (hr : FRel P κ S F w s a ρ) {ops : Array Oper} {o : Oper} {g : Bool} (hg : gateA ops s o = some g) : Region.wanted o (yielded ops a.tmps) = g := by
  unfold gateA at hg
  unfold Region.wanted
  split at hg
  · rename_i hno
    injection hg with hg
    subst hg
    rw [hno]
  · rename_i j want hgd
    rw [hgd]
    cases hd : (ops[j]?).bind (·.dst) with
    | none => simp [hd] at hg
    | some d =>
      simp only [hd] at hg
      split at hg
      · rename_i b hb
        injection hg with hg
        subst hg
        have hv := hr.tm d
        rw [hb] at hv
        have hget : a.tmps[d]? = some (.bool b) := by
          rw [Array.getD_eq_getD_getElem?] at hv
          cases hx : a.tmps[d]? with
          | none => rw [hx] at hv; simp [undef] at hv; cases hv
          | some x => rw [hx] at hv; simp at hv; cases hv; rfl
        simp only [yielded, hd, Option.bind_some, hget]
        cases b <;> cases want <;> rfl
      · rename_i hb
        injection hg with hg
        subst hg
        have hv := hr.tm d
        rw [hb] at hv
        simp only [yielded, hd, Option.bind_some]
        generalize hx : a.tmps.getD d undef = y at hv
        cases hv with
        | tup h1 h2 =>
          rename_i arr
          have : a.tmps[d]? = none ∨ a.tmps[d]? = some (.tuple arr) := by
            rw [Array.getD_eq_getD_getElem?] at hx
            cases hy : a.tmps[d]? with
            | none => exact .inl rfl
            | some z => rw [hy] at hx; simp at hx; exact .inr (by rw [hx])
          rcases this with h | h <;> rw [h] <;> rfl
      · cases hg

theorem aops_sound {ops : Array Oper} (hd : ∀ (i : Nat) (o : Oper) (d : Nat), ops[i]? = some o → o.dst = some d → d < N) : ∀ (l : List Nat) (s : ASt) (a : Act) (w : World) (κ : List Nat) (S : Nat → Nat → Prop) (ρ : Cls → Option (Value × TypeId)),
    FRel P κ S F w s a ρ → Ext F κ0 S0 w0 κ S w → a.tmps.size = N → aops P ops Q l s → wpOps P ops (LaterQ P N κ0 S0 F w0 Q) l a w := by
  intro l
  induction l with
  | nil =>
    intro s a w κ S ρ hr he hN hK
    exact ⟨κ, S, s, ρ, he, hr, hN, hK⟩
  | cons i rest ih =>
    intro s a w κ S ρ hr he hN hK
    simp only [aops] at hK
    simp only [wpOps]
    split at hK
    · rename_i ho
      simp only [ho]
      exact ih s a w κ S ρ hr he hN hK
    · rename_i o ho
      simp only [ho]
      split at hK
      · rename_i g hg
        rw [gate_sound hr hg]
        cases g with
        | true =>
          simp only [if_true] at hK ⊢
          refine .inl (Oper.wp_mono (fun a' w' hl => ?_) (aop_sound hr he hN (fun d h => hd i o d ho h) hK))
          obtain ⟨κ', S', s', ρ', he', hr', hN', hK'⟩ := hl
          exact ih s' a' w' κ' S' ρ' hr' he' hN' hK'
        | false =>
          simp only [Bool.false_eq_true, if_false] at hK ⊢
          exact ih _ _ w κ S ρ (hr.put (v := .tup []) (.tup (by simp) (by simp)) (fun d h => by rw [hN]; exact hd i o d ho h) (by simp)) he ((put_size a _ _).trans hN) hK
      · exact hK.elim

/-- All temporaries that the code writes lie below n. -/
def below (n : Nat) : Code → Bool
  | .region _ ops _ => ops.toList.all fun o => match o.dst with | some d => decide (d < n) | none => true
  | .seq a b => below n a && below n b
  | .cond _ a b => below n a && below n b
  | .block _ c => below n c
  | .loop c => below n c
  | .skip | .exit _ | .ret => true
  | _ => false

theorem below_region {n id : Nat} {ops : Array Oper} {d : Bool} (h : below n (.region id ops d) = true) : ∀ (i : Nat) (o : Oper) (d : Nat), ops[i]? = some o → o.dst = some d → d < n := by
  intro i o d' ho hd
  simp only [below, List.all_eq_true] at h
  have := h o (List.mem_of_getElem? (by simpa using ho))
  rw [hd] at this
  simpa using this

theorem Ext.drew (κ : List Nat) (S : Nat → Nat → Prop) (w : World) (hr : FRel P κ S F w s a ρ) : Ext F κ S w κ S { w with drawn := w.drawn + 1 } ∧ FRel P κ S F { w with drawn := w.drawn + 1 } s a ρ := by
  obtain ⟨he, hi⟩ := hr.inv.heap (w' := { w with drawn := w.drawn + 1 }) rfl rfl rfl
  exact ⟨he, hr.step he hi (fun t c e h => ⟨h, rfl⟩)⟩

theorem acode_sound {n0 : Nat} (hn0 : κ0.length = n0) (c : Code) : ∀ (Q : AExit → ASt → Prop) (s : ASt) (a : Act) (w : World) (κ : List Nat) (S : Nat → Nat → Prop) (ρ : Cls → Option (Value × TypeId)), below N c = true →
    FRel P κ S F w s a ρ → Ext F κ0 S0 w0 κ S w → a.tmps.size = N → acode P n0 c Q s → c.wp P (LaterQ P N κ0 S0 F w0 Q) a w := by
  induction c with
  | skip => intro Q s a w κ S ρ _ hr he hN hK; exact wp_skip ⟨κ, S, s, ρ, he, hr, hN, hK⟩
  | region id ops draw =>
    intro Q s a w κ S ρ hb hr he hN hK
    have hd := below_region hb
    cases draw with
    | true =>
      simp only [acode, if_true] at hK
      refine wp_region_draw fun t => ?_
      obtain ⟨he1, hr1⟩ := Ext.drew κ S w hr
      exact aops_sound hd _ s a _ κ S ρ hr1 (he.trans he1) hN (hK t)
    | false =>
      simp only [acode, Bool.false_eq_true, if_false] at hK
      exact wp_region (aops_sound hd _ s a w κ S ρ hr he hN hK)
  | seq x y ihx ihy =>
    intro Q s a w κ S ρ hb hr he hN hK
    simp only [below, Bool.and_eq_true] at hb
    simp only [acode] at hK
    obtain ⟨M, hK, hM⟩ := hK
    refine wp_seq (wp_mono (ihx _ s a w κ S ρ hb.1 hr he hN hK) fun e a' w' hq => ?_)
    cases e with
    | normal =>
      obtain ⟨κ', S', s', ρ', he', hr', hN', s3, hw, hK'⟩ := hq
      rcases hw with rfl | hw
      · exact ihy _ s3 a' w' κ' S' ρ' hb.2 hr' he' hN' (hM s3 hK')
      · obtain ⟨ρ2, hr2⟩ := hr'.weak hw
        exact ihy _ s3 a' w' _ S' ρ2 hb.2 hr2 (Ext.forget he' (by rw [hn0]; exact hw.len)) hN' (hM s3 hK')
    | _ => exact hq
  | cond c x y ihx ihy =>
    intro Q s a w κ S ρ hb hr he hN hK
    simp only [below, Bool.and_eq_true] at hb
    simp only [acode] at hK
    split at hK
    · rename_i t ht
      have hv := hr.ev c
      rw [ht] at hv
      generalize hcv : a.eval c = cv at hv
      cases hv
      refine wp_cond (t := t) hcv ?_
      cases t with
      | true => exact ihx Q s a w κ S ρ hb.1 hr he hN (by simpa using hK)
      | false => exact ihy Q s a w κ S ρ hb.2 hr he hN (by simpa using hK)
    · exact hK.elim
  | block id c ih =>
    intro Q s a w κ S ρ hb hr he hN hK
    simp only [acode] at hK
    refine wp_block (wp_mono (ih _ s a w κ S ρ hb hr he hN hK) fun e a' w' hq => ?_)
    cases e with
    | exit id' =>
      obtain ⟨κ', S', s', ρ', he', hr', hN', hK'⟩ := hq
      simp only [inBlockA] at hK'
      simp only [Exit.inBlock]
      by_cases hid : id' = id
      · rw [if_pos hid] at hK' ⊢; exact ⟨κ', S', s', ρ', he', hr', hN', hK'⟩
      · rw [if_neg hid] at hK' ⊢; exact ⟨κ', S', s', ρ', he', hr', hN', hK'⟩
    | _ => exact hq
  | loop c ih =>
    intro Q s a w κ S ρ hb hr he hN hK
    simp only [acode] at hK
    obtain ⟨I, μ, ⟨s0, hw0, h0⟩, hround⟩ := hK
    have hstart : ∃ κ S s ρ, Ext F κ0 S0 w0 κ S w ∧ FRel P κ S F w s a ρ ∧ a.tmps.size = N ∧ I s ∧ μ s = μ s0 := by
      rcases hw0 with rfl | hw0
      · exact ⟨κ, S, s0, ρ, he, hr, hN, h0, rfl⟩
      · obtain ⟨ρ2, hr2⟩ := hr.weak hw0
        exact ⟨_, S, s0, ρ2, Ext.forget he (by rw [hn0]; exact hw0.len), hr2, hN, h0, rfl⟩
    refine wp_loop_ghost (fun n a w => ∃ κ S s ρ, Ext F κ0 S0 w0 κ S w ∧ FRel P κ S F w s a ρ ∧ a.tmps.size = N ∧ I s ∧ μ s = n) (μ s0) hstart ?_
    rintro n a1 w1 ⟨κ1, S1, s1, ρ1, he1, hr1, hN1, hI, rfl⟩
    refine wp_mono (ih _ s1 a1 w1 κ1 S1 ρ1 hb hr1 he1 hN1 (hround s1 hI)) fun e a' w' hq => ?_
    cases e with
    | normal =>
      obtain ⟨κ', S', s', ρ', he', hr', hN', s3, hw, hI', hlt⟩ := hq
      rcases hw with rfl | hw
      · exact ⟨μ s3, hlt, κ', S', s3, ρ', he', hr', hN', hI', rfl⟩
      · obtain ⟨ρ2, hr2⟩ := hr'.weak hw
        exact ⟨μ s3, hlt, _, S', s3, ρ2, Ext.forget he' (by rw [hn0]; exact hw.len), hr2, hN', hI', rfl⟩
    | _ => exact hq
  | exit id => intro Q s a w κ S ρ _ hr he hN hK; exact wp_exit ⟨κ, S, s, ρ, he, hr, hN, hK⟩
  | ret => intro Q s a w κ S ρ _ hr he hN hK; exact wp_ret ⟨κ, S, s, ρ, he, hr, hN, hK⟩
  | rangeFunc f ps x y _ _ => intro Q s a w κ S ρ hb; simp [below] at hb
  | scope c _ => intro Q s a w κ S ρ hb; simp [below] at hb
  | label l => intro Q s a w κ S ρ hb; simp [below] at hb
  | goto l => intro Q s a w κ S ρ hb; simp [below] at hb
  | refuse why => intro Q s a w κ S ρ hb; simp [below] at hb

end
end Go.AW
end

section
namespace Go.AW

section
variable {P : Program} {κ κ' κ0 : List Nat} {S S' S0 F : Nat → Nat → Prop} {w w' w0 : World} {s : ASt} {a : Act} {ρ ρ' : Cls → Option (Value × TypeId)} {h h' : AHeap}
  {Q : AExit → ASt → Prop} {N : Nat}

/-- What a result variable holds. -/
def resA (P : Program) (s : ASt) : ResultVar → Option AV
  | .tmp t => some (s.tm t)
  | .cell x t => match s.tm x, szOf P t, aggOf P t with
    | .ptr k off, some z, some true => (s.h.row k off z).map fun cs => .agg (cs.map (·.v))
    | .ptr k off, some _, some false => (s.h.get k off).map (·.v)
    | _, _, _ => none

def ressA (P : Program) (s : ASt) : List ResultVar → Option (List AV)
  | [] => some []
  | r :: rs => match resA P s r, ressA P s rs with
    | some v, some vs => some (v :: vs)
    | _, _ => none

def retA (P : Program) (s : ASt) (rs : List ResultVar) : Option AV :=
  match ressA P s rs with
  | some [v] => some v
  | some vs => some (.tup vs)
  | none => none

end
end Go.AW
end

section
namespace Go.AW
section
variable {P : Program} {κ κ' κ0 : List Nat} {S S' S0 F : Nat → Nat → Prop} {w w' w0 : World} {s : ASt} {a : Act} {ρ ρ' : Cls → Option (Value × TypeId)} {h h' : AHeap}
  {Q : AExit → ASt → Prop} {N : Nat}

theorem res_sound (hr : FRel P κ S F w s a ρ) {r : ResultVar} {v : AV} (h : resA P s r = some v) :
    ∃ v', (match r with
      | .tmp t => pure (a.tmps.getD t undef)
      | .cell x t => do loadVar t (← asAddr (a.tmps.getD x undef)) : Sem Value).run P w = .ok v' w ∧ VR κ S w v v' := by
  cases r with
  | tmp t =>
    simp only [resA] at h
    injection h with h
    subst h
    exact ⟨_, rfl, hr.tm t⟩
  | cell x t =>
    simp only [resA] at h
    split at h
    · rename_i k off z hx hz ha
      have hv := hr.tm x
      rw [hx] at hv
      cases hrow : s.h.row k off z with
      | none => simp [hrow] at h
      | some cs =>
        simp [hrow] at h
        subst h
        obtain ⟨blk, hb, hle, rfl⟩ := AHeap.row_spec hrow
        obtain ⟨b, arr, T, hval, hk, hheap, hsz, hcells, hload⟩ := box_cells (P := P) hr.inv hv hb hle
        refine ⟨.agg (arr.extract off (off + z)), ?_, .agg (by simp; omega) (fun c hc => ?_) (fun j c u hc hu => ?_)⟩
        · simp only []
          rw [hval]
          simp [asAddr, loadVar, run_agg ha, run_size hz, hload]
        · obtain ⟨c0, hc0, rfl⟩ := List.mem_map.1 hc
          obtain ⟨j, hj⟩ := List.getElem?_of_mem hc0
          rw [List.getElem?_take] at hj
          split at hj
          · rw [List.getElem?_drop] at hj
            have hlt : off + j < arr.size := by rw [hsz]; exact (List.getElem?_eq_some_iff.1 hj).1
            exact (hcells _ _ arr[off + j] hj (by simp [hlt])).2.1
          · cases hj
        · rw [List.getElem?_map, List.getElem?_take] at hc
          rw [Array.getElem?_extract] at hu
          by_cases hj : j < z
          · rw [if_pos hj, List.getElem?_drop] at hc
            rw [if_pos (by omega)] at hu
            cases hcj : blk[off + j]? with
            | none => simp [hcj] at hc
            | some c0 =>
              simp [hcj] at hc
              subst hc
              exact (hcells _ c0 u hcj hu).1
          · rw [if_neg hj] at hc; simp at hc
    · rename_i k off z hx hz ha
      have hv := hr.tm x
      rw [hx] at hv
      cases hget : s.h.get k off with
      | none => simp [hget] at h
      | some c =>
        simp [hget] at h
        subst h
        unfold AHeap.get at hget
        cases hb : s.h.blocks[k]? with
        | none => simp [hb] at hget
        | some blk =>
          simp [hb] at hget
          have hlt := (List.getElem?_eq_some_iff.1 hget).1
          obtain ⟨b, arr, T, hval, hk, hheap, hsz, hcells, hload⟩ := box_cells (P := P) (n := 0) hr.inv hv hb (by omega)
          have hlt' : off < arr.size := by omega
          have hau : arr[off]? = some arr[off] := by simp [hlt']
          obtain ⟨g1, g2, g3⟩ := hcells off c _ hget hau
          exact ⟨arr[off], by simp only []; rw [hval]; simp [asAddr, loadVar, run_agg ha, World.cell?, hheap, hau], g1⟩
    · cases h

theorem ress_sound (hr : FRel P κ S F w s a ρ) : ∀ {rs : List ResultVar} {vs : List AV}, ressA P s rs = some vs →
    ∃ vs', (rs.mapM fun r => (match r with
      | .tmp t => pure (a.tmps.getD t undef)
      | .cell x t => do loadVar t (← asAddr (a.tmps.getD x undef)) : Sem Value)).run P w = .ok vs' w ∧ VRs κ S w vs vs' := by
  intro rs
  induction rs with
  | nil => intro vs h; simp [ressA] at h; subst h; exact ⟨[], by simp, by simp, by simp⟩
  | cons r rs ih =>
    intro vs h
    simp only [ressA] at h
    split at h
    · rename_i v vs0 h1 h2
      injection h with h
      subst h
      obtain ⟨v', hv, hvr⟩ := res_sound hr h1
      obtain ⟨vs', hvs, hvrs⟩ := ih h2
      refine ⟨v' :: vs', by rw [List.mapM_cons, Sem.run_bind, hv, Result.andThen_ok, Sem.run_bind, hvs]; rfl, by simp [hvrs.1], fun j x u hx hu => ?_⟩
      cases j with
      | zero => simp at hx hu; subst hx hu; exact hvr
      | succ j => exact hvrs.2 j x u (by simpa using hx) (by simpa using hu)
    · cases h

theorem ret_sound (hr : FRel P κ S F w s a ρ) {fn : Func} {v : AV} (h : retA P s fn.results.toList = some v) : ∃ v', (results fn a.tmps).run P w = .ok v' w ∧ VR κ S w v v' := by
  unfold retA at h
  have key : ∀ {vs : List AV}, ressA P s fn.results.toList = some vs → ∃ vs' : List Value, (results fn a.tmps).run P w = .ok (if h : vs'.toArray.size = 1 then vs'.toArray[0] else .tuple vs'.toArray) w ∧ VRs κ S w vs vs' := by
    intro vs hvs
    obtain ⟨vs', hrun, hvr⟩ := ress_sound hr hvs
    refine ⟨vs', ?_, hvr⟩
    unfold results
    rw [Sem.run_bind, Array.mapM_eq_mapM_toList, Sem.run_map]
    erw [hrun]
    rfl
  split at h
  · rename_i v0 hvs
    injection h with h
    subst h
    obtain ⟨vs', hrun, hvr⟩ := key hvs
    match vs', hvr, hrun with
    | [u], hvr, hrun => exact ⟨u, by simpa using hrun, hvr.2 0 _ u (by simp) (by simp)⟩
    | [], hvr, _ => exact absurd hvr.1 (by simp)
    | _ :: _ :: _, hvr, _ => exact absurd hvr.1 (by simp)
  · rename_i vs hne hvs
    injection h with h
    subst h
    obtain ⟨vs', hrun, hvr⟩ := key hvs
    have hl : vs'.toArray.size ≠ 1 := by
      simp only [List.size_toArray]
      rw [hvr.1]
      intro h1
      match vs, h1, hne with
      | [x], _, hne => exact hne x rfl
    rw [dif_neg hl] at hrun
    exact ⟨_, hrun, .tup (by simpa using hvr.1) (fun j c u hc hu => hvr.2 j c u hc (by simpa using hu))⟩
  · cases h

/-- What must hold where a body ends. n0: the boxes that were there before. -/
def abodyPost (P : Program) (rs : List ResultVar) (n0 : Nat) (R : AEnd → AHeap → Prop) : AExit → ASt → Prop
  | .normal, s | .ret, s => s.df = [] ∧ ∃ v v' h' L, retA P s rs = some v ∧ LE v v' ∧ s.h.blocks = h'.blocks ++ L ∧ n0 ≤ h'.blocks.length ∧ Closed h' ∧ Bel h'.blocks.length v' ∧
      (R (.ret v') h' ∨ ∃ t e, rs = [.tmp t] ∧ (∃ n, s.cl t = some (.tmp n, e)) ∧ v' = s.tm t ∧ R (.ret v' (some e)) h')
  | .panic v, s => s.df = [] ∧ ∃ h' L, s.h.blocks = h'.blocks ++ L ∧ n0 ≤ h'.blocks.length ∧ Closed h' ∧ Bel h'.blocks.length v ∧ R (.panic v) h'
  | .exit _, _ => False

def ASt.enter (args : List AV) (h : AHeap) : ASt := { tm := fun t => args.getD t .raw, cl := fun _ => none, h := h, df := [] }

theorem enter_rel (hi : Inv P κ S F w h ρ) {args : List AV} {vs : List Value} (hv : VRs κ S w args vs) (n : Nat) :
    FRel P κ S F w (ASt.enter args h) { tmps := vs.toArray ++ Array.replicate n undef, defers := [] } ρ := by
  refine ⟨hi, fun t => ?_, fun t c e hc => by simp [ASt.enter] at hc, by simp [ASt.enter], by simp [ASt.enter]⟩
  simp only [ASt.enter, List.getD_eq_getElem?_getD, Array.getD_eq_getD_getElem?]
  cases ht : args[t]? with
  | none => simp; exact .raw
  | some x =>
    have hlt : t < vs.length := by rw [hv.1]; exact (List.getElem?_eq_some_iff.1 ht).1
    simp only [Option.getD_some]
    rw [Array.getElem?_append, if_pos (by simpa using hlt)]
    simp only [List.getElem?_toArray, List.getElem?_eq_getElem hlt, Option.getD_some]
    exact hv.2 t x _ ht (List.getElem?_eq_getElem hlt)

theorem defs_nil (hr : FRel P κ S F w s a ρ) (h : s.df = []) : a.defers = [] := by
  have := hr.df.1
  rw [h] at this
  exact List.eq_nil_of_length_eq_zero this.symm

/-- A body that is walked abstractly: the call's contract. -/
theorem ACalls.of_body {f : FuncId} {fn : Func} {c : Code} {args : List AV} {R : AEnd → AHeap → Prop} (hf : P.funcs[f]? = some fn) (hb : fn.body = some c) (hbel : below fn.ntmps c = true) (hargs : args.length ≤ fn.ntmps)
    (hbody : Closed h → (∀ x ∈ args, Bel h.blocks.length x) → acode P h.blocks.length c (abodyPost P fn.results.toList h.blocks.length R) (ASt.enter args h)) : ACalls P f args h R := by
  intro κ S F w ρ vs hi hv
  have hcl := hi.closed
  have hab : ∀ x ∈ args, Bel h.blocks.length x := by
    intro x hx
    obtain ⟨j, hj⟩ := List.getElem?_of_mem hx
    have hlt : j < vs.length := by rw [hv.1]; exact (List.getElem?_eq_some_iff.1 hj).1
    have := (hv.2 j x _ hj (List.getElem?_eq_getElem hlt)).bel
    rwa [hi.len] at this
  refine calls_of_wp hf hb (wp_mono (acode_sound (N := fn.ntmps) (κ0 := κ) (S0 := S) (w0 := w) hi.len c _ _ _ _ κ S ρ hbel (enter_rel hi hv _) (Ext.refl κ S w) (by simp [hv.1]; omega) (hbody hcl hab)) fun e a' w' hq => ?_)
  have fin : ∀ (s : ASt), Later P fn.ntmps κ S F w (abodyPost P fn.results.toList h.blocks.length R .ret) a' w' → a'.defers = [] ∧ ∃ v, (results fn a'.tmps).run P w' = .ok v w' ∧
      ∃ κ' S' h' ρ' ae, Ext F κ S w κ' S' w' ∧ Inv P κ' S' F w' h' ρ' ∧ EndR κ' S' w' ρ' ae (.returned v) ∧ R ae h' := by
    intro _ hl
    obtain ⟨κ1, S1, s1, ρ1, he1, hr1, _, hdf, v, v', h', L, hret, hle, hh, hn0, hc, hb', hR⟩ := hl
    refine ⟨defs_nil hr1 hdf, ?_⟩
    obtain ⟨val, hrun, hvr⟩ := ret_sound hr1 hret
    refine ⟨val, hrun, ?_⟩
    have hfor := hr1.inv.forget hh hc
    have hvr' := (VR.le hle hvr).shrink hb'
    rcases hR with hR | ⟨t, e, hrs, ⟨n, hcl'⟩, hvt, hR⟩
    · exact ⟨_, S1, h', ρ1, .ret v', Ext.forget he1 (by rw [hi.len]; exact hn0), hfor, ⟨hvr', by simp⟩, hR⟩
    · have hρ := hr1.cl t _ e hcl'
      have hval : val = a'.tmps.getD t undef := by
        unfold results at hrun
        have hrs' : fn.results = #[.tmp t] := by apply Array.ext'; simpa using hrs
        rw [hrs'] at hrun
        simp at hrun
        rw [Array.getD_eq_getD_getElem?]
        exact hrun.symm
      have hinv : Inv P (κ1.take h'.blocks.length) S1 F w' h' (fun c => match c with | .tmp m => if m = 0 then some (val, e) else none | .cell k j => ρ1 (.cell k j)) := by
        refine ⟨hfor.len, hfor.nd, fun k b cs hk hb => ?_, hfor.sIn, hfor.fIn, hfor.fUp, fun c v0 e0 hc0 => ?_, fun c c' v1 v2 e1 e2 hne h1 h2 => ?_⟩
        · obtain ⟨arr, T, g1, g2, g3⟩ := hfor.blk k b cs hk hb
          exact ⟨arr, T, g1, g2, g3⟩
        · cases c with
          | tmp m =>
            simp only at hc0
            split at hc0
            · injection hc0 with hc0; injection hc0 with g1 g2; subst g1 g2
              rw [hval]; exact hfor.own _ _ _ hρ
            · cases hc0
          | cell k j => exact hfor.own _ _ _ hc0
        · cases c with
          | tmp m =>
            simp only at h1
            split at h1
            · injection h1 with h1; injection h1 with g1 g2; subst g1 g2
              cases c' with
              | tmp m' =>
                simp only at h2
                split at h2
                · rename_i q1 q2; exact absurd (by rw [q1, q2]) hne
                · cases h2
              | cell k j => exact hfor.dis (.tmp n) (.cell k j) _ _ _ _ (by simp) (hval ▸ hρ) h2
            · cases h1
          | cell k j =>
            cases c' with
            | tmp m' =>
              simp only at h2
              split at h2
              · injection h2 with h2; injection h2 with g1 g2; subst g1 g2
                exact hfor.dis (.cell k j) (.tmp n) _ _ _ _ (by simp) h1 (hval ▸ hρ)
              · cases h2
            | cell k' j' => exact hfor.dis _ _ _ _ _ _ hne h1 h2
      exact ⟨_, S1, h', _, .ret v' (some e), Ext.forget he1 (by rw [hi.len]; exact hn0), hinv, ⟨hvr', fun e' he' => by injection he' with he'; subst he'; simp⟩, hR⟩
  cases e with
  | normal => exact fin (ASt.enter args h) hq
  | ret => exact fin (ASt.enter args h) hq
  | panic chain =>
    obtain ⟨κ1, S1, s1, ρ1, x, v, he1, hr1, hvr, rfl, hdf, h', L, hh, hn0, hc, hb', hR⟩ := hq
    exact ⟨defs_nil hr1 hdf, _, S1, h', ρ1, .panic x, Ext.forget he1 (by rw [hi.len]; exact hn0), hr1.inv.forget hh hc, hvr.shrink hb', hR⟩
  | exit id =>
    obtain ⟨_, _, _, _, _, _, _, hK⟩ := hq
    exact hK.elim
  | goto l => exact hq.elim
  | outgrown => exact hq.elim

/-- Arguments of which less is told. -/
theorem ACalls.le {f : FuncId} {xs ys : List AV} {R : AEnd → AHeap → Prop} (hc : ACalls P f ys h R) (hl : xs.length = ys.length) (hle : ∀ (j : Nat) (x y : AV), xs[j]? = some x → ys[j]? = some y → LE x y) : ACalls P f xs h R := by
  intro κ S F w ρ vs hi hv
  refine hc κ S F w ρ vs hi ⟨hv.1.trans hl, fun j y v hy hv' => ?_⟩
  have hlt : j < xs.length := by rw [hl]; exact (List.getElem?_eq_some_iff.1 hy).1
  exact VR.le (hle j xs[j] y (by simp [hlt]) hy) (hv.2 j xs[j] v (by simp [hlt]) hv')

end
end Go.AW
end
