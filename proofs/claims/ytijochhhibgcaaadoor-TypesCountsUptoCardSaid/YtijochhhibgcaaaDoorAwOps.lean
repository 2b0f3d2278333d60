/- The abstract walk, second part: frames, memory, append and calls, shown sound. -/
import Derived.Test.YtijochhhibgcaaaDoorAwCore
import Derived.Laws.CopyRow
section
namespace Go.AW
section
variable {P : Program} {κ κ' κ0 : List Nat} {S S' S0 F : Nat → Nat → Prop} {w w' w0 : World} {s : ASt} {a : Act} {ρ ρ' : Cls → Option (Value × TypeId)}

def DefR (κ : List Nat) (S : Nat → Nat → Prop) (w : World) (x : FuncId × List AV) (d : Deferred) : Prop :=
  ∃ cap : Array Value, d.target = .fn (.func x.1) cap ∧ VRs κ S w x.2 (d.args.toList ++ cap.toList)

structure FRel (P : Program) (κ : List Nat) (S F : Nat → Nat → Prop) (w : World) (s : ASt) (a : Act) (ρ : Cls → Option (Value × TypeId)) : Prop where
  inv : Inv P κ S F w s.h ρ
  tm : ∀ t, VR κ S w (s.tm t) (a.tmps.getD t undef)
  cl : ∀ t c e, s.cl t = some (c, e) → ρ c = some (a.tmps.getD t undef, e)
  df : s.df.length = a.defers.length ∧ ∀ (j : Nat) (x : FuncId × List AV) (d : Deferred), s.df[j]? = some x → a.defers[j]? = some d → DefR κ S w x d

theorem VRs.ext {xs : List AV} {vs : List Value} (he : Ext F κ S w κ' S' w') (h : VRs κ S w xs vs) : VRs κ' S' w' xs vs :=
  ⟨h.1, fun j x v hx hv => (h.2 j x v hx hv).ext he⟩

theorem FRel.ev (h : FRel P κ S F w s a ρ) (x : Operand) : VR κ S w (s.ev x) (a.eval x) := by
  cases x with
  | tmp t => exact h.tm t
  | const v => exact cav_sound v
  | global g => exact .raw
  | func f => exact .func (by simp) (by simp) (by simp) (by simp)

theorem FRel.put (h : FRel P κ S F w s a ρ) {dst : Option Nat} {v : AV} {val : Value} {c : Option (Cls × TypeId)} (hv : VR κ S w v val) (hd : ∀ d, dst = some d → d < a.tmps.size)
    (hc : ∀ k e, c = some (k, e) → ρ k = some (val, e)) : FRel P κ S F w (s.put dst v c) (a.put dst val) ρ := by
  cases dst with
  | none => exact h
  | some d =>
    have hlt := hd d rfl
    have get : ∀ t, (a.put (some d) val).tmps.getD t undef = if t = d then val else a.tmps.getD t undef := by
      intro t
      simp only [Act.put, Array.getD_eq_getD_getElem?]
      by_cases ht : t = d
      · subst ht; simp [hlt]
      · rw [Array.getElem?_setIfInBounds_ne (fun e => ht e.symm), if_neg ht]
    refine ⟨h.inv, fun t => ?_, fun t k e hk => ?_, h.df⟩
    · rw [get]
      simp only [ASt.put]
      split
      · exact hv
      · exact h.tm t
    · rw [get]
      simp only [ASt.put] at hk
      split at hk
      · rename_i ht; rw [if_pos ht]; exact hc k e hk
      · rename_i ht; rw [if_neg ht]; exact h.cl t k e hk

theorem FRel.step (h : FRel P κ S F w s a ρ) (he : Ext F κ S w κ' S' w') {h' : AHeap} {cl' : Nat → Option (Cls × TypeId)} (hi : Inv P κ' S' F w' h' ρ')
    (hc : ∀ t c e, cl' t = some (c, e) → s.cl t = some (c, e) ∧ ρ' c = ρ c) : FRel P κ' S' F w' { s with h := h', cl := cl' } a ρ' :=
  ⟨hi, fun t => (h.tm t).ext he, fun t c e hk => by obtain ⟨h1, h2⟩ := hc t c e hk; rw [h2]; exact h.cl t c e h1,
    h.df.1, fun j x d hx hd => by obtain ⟨cap, h1, h2⟩ := h.df.2 j x d hx hd; exact ⟨cap, h1, h2.ext he⟩⟩

theorem at_block {b : Nat} (h : w'.heap[b]? = w.heap[b]?) (o : Nat) : w'.at_ b o = w.at_ b o := by simp [World.at_, World.cell?, h]

/-- A world in which only blocks that nobody leans on have turned, or new ones have come. -/
theorem Ext.of_blocks {S' : Nat → Nat → Prop} (hs : w.heap.size ≤ w'.heap.size) (hsub : ∀ b o, S b o → S' b o) (hk : ∀ b o, S b o → w'.at_ b o = w.at_ b o) (hkF : ∀ b o, F b o → w'.at_ b o = w.at_ b o)
    (hg : ∀ (b : Nat) (arr : Array Value) (T : TypeId) (fr : Nat × Nat), w.heap[b]? = some (.cells arr T fr) → ∃ arr' : Array Value, w'.heap[b]? = some (.cells arr' T fr) ∧ arr'.size = arr.size) {ks : List Nat} (hks : ∀ b ∈ ks, w.heap.size ≤ b) (hst : Still w w') :
    Ext F κ S w (κ ++ ks) S' w' := ⟨⟨ks, rfl, hks⟩, hsub, hk, hkF, hg, hs, hst⟩

theorem Still.alloc (w : World) (arr : Array Value) (T : TypeId) : Still w (w.alloc (.cells arr T)) := by
  refine ⟨rfl, rfl, fun i c t fr hi hh => ?_, fun i hi _ => heap_alloc_old w _ i hi⟩
  have hlt := (Array.getElem?_eq_some_iff.1 hh).1
  have : i = w.heap.size := by simp at hlt; omega
  subst this
  rw [heap_alloc_new w] at hh
  injection hh with hh
  injection hh with _ _ hh
  exact hh.symm

theorem Still.setRow {w : World} {b : Nat} {arr : Array Value} {T : TypeId} {fr : Nat × Nat} (h : w.heap[b]? = some (.cells arr T fr)) (arr' : Array Value) : Still w (w.setRow b arr') := by
  refine ⟨rfl, rfl, fun i c t fr' hi hh => ?_, fun i hi hc => ?_⟩
  · have hlt := (Array.getElem?_eq_some_iff.1 hh).1
    simp at hlt
    omega
  · by_cases e : i = b
    · subst e; exact absurd h (hc _ _ _)
    · exact setRow_other w b i _ e

theorem Ext.alloc (arr : Array Value) (T : TypeId) {S' : Nat → Nat → Prop} (hsub : ∀ b o, S b o → S' b o) (hin : ∀ b o, S b o → b < w.heap.size) (hinF : ∀ b o, F b o → b < w.heap.size) {ks : List Nat} (hks : ∀ b ∈ ks, w.heap.size ≤ b) : Ext F κ S w (κ ++ ks) S' (w.alloc (.cells arr T)) := by
  refine .of_blocks (by simp) hsub (fun b o' h => at_block (heap_alloc_old w _ b (hin b o' h)) o') (fun b o' h => at_block (heap_alloc_old w _ b (hinF b o' h)) o') (fun b arr' T' fr h => ⟨arr', ?_, rfl⟩) hks (Still.alloc w _ _)
  rw [heap_alloc_old w _ b (Array.getElem?_eq_some_iff.1 h).1]
  exact h

theorem Owned.mono {κ' : List Nat} {S' F' : Nat → Nat → Prop} {v : Value} {e : TypeId} (h : Owned P κ S F w v e)
    (hg : ∀ g cur, v.ownBlock = some g → w.heap[g]? = some (.cells cur e (0, 0)) → g ∉ κ → w'.heap[g]? = some (.cells cur e (0, 0)) ∧ g ∉ κ' ∧ ∀ o, ¬ S g o → ¬ F g o → ¬ S' g o ∧ ¬ F' g o) : Owned P κ' S' F' w' v e := by
  rcases h with rfl | ⟨g, n, cap, cur, i, rfl, h1, h2, h3, h4, h5, h6, h7⟩
  · exact .inl rfl
  · obtain ⟨g1, g2, g3⟩ := hg g cur rfl h2 h6
    exact .inr ⟨g, n, cap, cur, i, rfl, h1, g1, h3, h4, h5, g2, fun o ho => g3 o (h7 o ho).1 (h7 o ho).2⟩

theorem Owned.lt {v : Value} {e : TypeId} (h : Owned P κ S F w v e) {g : Nat} (hg : v.ownBlock = some g) : g < w.heap.size ∧ g ∉ κ ∧ ∃ m, ∀ o, m ≤ o → ¬ S g o ∧ ¬ F g o := by
  rcases h with rfl | ⟨g', n, cap, cur, i, rfl, h1, h2, h3, h4, h5, h6, h7⟩
  · simp [Value.ownBlock] at hg
  · simp [Value.ownBlock] at hg
    subst hg
    exact ⟨(Array.getElem?_eq_some_iff.1 h2).1, h6, _, h7⟩

/-- A new box. -/
theorem Inv.box (hi : Inv P κ S F w s.h ρ) {cs : List AV} {arr : Array Value} {T : TypeId} (hv : VRl κ S w cs arr) (h1 : ∀ c ∈ cs, c.one = true) :
    Inv P (κ ++ [w.heap.size]) S F (w.alloc (.cells arr T)) (s.h.new (cs.map fun v => { v })) ρ := by
  have he : Ext F κ S w (κ ++ [w.heap.size]) S (w.alloc (.cells arr T)) := Ext.alloc _ _ (fun _ _ h => h) (fun b o h => (hi.sIn b o h).1) (fun b o h => (hi.fIn b o h).1) (by simp)
  have hκ : ∀ b ∈ κ, b < w.heap.size := by
    intro b hb
    obtain ⟨k, hk⟩ := List.getElem?_of_mem hb
    have hlt : k < s.h.blocks.length := by rw [← hi.len]; exact (List.getElem?_eq_some_iff.1 hk).1
    obtain ⟨arr', T', h, _⟩ := hi.blk k b _ hk (List.getElem?_eq_getElem hlt)
    exact (Array.getElem?_eq_some_iff.1 h).1
  refine ⟨by simp [AHeap.new, hi.len], ?_, fun k b cs' hk hb => ?_, fun b o h => ?_, fun b o h => ?_, hi.fUp, fun c v e hc => ?_, hi.dis⟩
  · rw [List.nodup_append]
    refine ⟨hi.nd, by simp, ?_⟩
    intro x hx y hy
    simp at hy
    subst hy
    have := hκ x hx
    omega
  · by_cases hlt : k < κ.length
    · rw [List.getElem?_append_left hlt] at hk
      rw [AHeap.new, List.getElem?_append_left (by rw [← hi.len]; exact hlt)] at hb
      obtain ⟨arr', T', h1', h2', h3'⟩ := hi.blk k b cs' hk hb
      refine ⟨arr', T', by rw [heap_alloc_old w _ b (Array.getElem?_eq_some_iff.1 h1').1]; exact h1', h2', fun j c v hc hv' => ?_⟩
      obtain ⟨g1, g2, g3⟩ := h3' j c v hc hv'
      exact ⟨g1.ext he, g2, g3⟩
    · have hk' : k = κ.length := by
        have := (List.getElem?_eq_some_iff.1 hk).1
        simp at this
        omega
      subst hk'
      simp at hk
      subst hk
      simp only [AHeap.new, hi.len, List.getElem?_concat_length] at hb
      simp at hb
      subst hb
      refine ⟨arr, T, heap_alloc_new w _, by simpa using hv.1, fun j c v hc hv' => ?_⟩
      rw [List.getElem?_map] at hc
      cases hj : cs[j]? with
      | none => simp [hj] at hc
      | some x =>
        simp [hj] at hc
        subst hc
        exact ⟨(hv.2 j x v hj hv').ext he, h1 x (List.mem_of_getElem? hj), by simp⟩
  · obtain ⟨g1, g2⟩ := hi.sIn b o h
    refine ⟨by simp; omega, fun hm => ?_⟩
    rcases List.mem_append.1 hm with hm | hm
    · exact g2 hm
    · simp at hm; omega
  · obtain ⟨g1, g2, g3⟩ := hi.fIn b o h
    refine ⟨by simp; omega, fun hm => ?_, g3⟩
    rcases List.mem_append.1 hm with hm | hm
    · exact g2 hm
    · simp at hm; omega
  · refine (hi.own c v e hc).mono fun g cur _ hg hk => ?_
    have hlt := (Array.getElem?_eq_some_iff.1 hg).1
    refine ⟨by rw [heap_alloc_old w _ g hlt]; exact hg, fun hm => ?_, fun o h1 h2 => ⟨h1, h2⟩⟩
    rcases List.mem_append.1 hm with hm | hm
    · exact hk hm
    · simp at hm; omega

end
end Go.AW
end

section
namespace Go.AW
section
variable {P : Program} {κ κ' κ0 : List Nat} {S S' S0 F : Nat → Nat → Prop} {w w' w0 : World} {s : ASt} {a : Act} {ρ ρ' : Cls → Option (Value × TypeId)} {h : AHeap}

theorem block_of (hi : Inv P κ S F w h ρ) {k : Nat} {blk : List Cell} (hb : h.blocks[k]? = some blk) : ∃ b, κ[k]? = some b := by
  have hlt : k < κ.length := by rw [hi.len]; exact (List.getElem?_eq_some_iff.1 hb).1
  exact ⟨κ[k], List.getElem?_eq_getElem hlt⟩

theorem cells_of (hi : Inv P κ S F w h ρ) {k b : Nat} (hk : κ[k]? = some b) : ∃ blk, h.blocks[k]? = some blk := by
  have hlt : k < h.blocks.length := by rw [← hi.len]; exact (List.getElem?_eq_some_iff.1 hk).1
  exact ⟨h.blocks[k], List.getElem?_eq_getElem hlt⟩

theorem inj_of (hi : Inv P κ S F w h ρ) {k k' b : Nat} (hk : κ[k]? = some b) (hk' : κ[k']? = some b) : k = k' := by
  obtain ⟨l1, e1⟩ := List.getElem?_eq_some_iff.1 hk
  obtain ⟨l2, e2⟩ := List.getElem?_eq_some_iff.1 hk'
  have hp := List.pairwise_iff_getElem.1 hi.nd
  rcases Nat.lt_trichotomy k k' with hlt | heq | hgt
  · exact absurd (e1.trans e2.symm) (hp k k' l1 l2 hlt)
  · exact heq
  · exact absurd (e2.trans e1.symm) (hp k' k l2 l1 hgt)

/-- Cells of a box written. -/
theorem Inv.store (hi : Inv P κ S F w h ρ) {k b off : Nat} {blk cs : List Cell} {arr : Array Value} {T : TypeId} {vals : List Value} (hk : κ[k]? = some b) (hb : h.blocks[k]? = some blk) (hle : off + cs.length ≤ blk.length)
    (harr : w.heap[b]? = some (.cells arr T (0, 0))) (hn : vals.length = cs.length)
    (hv : ∀ (j : Nat) (c : Cell) (v : Value), cs[j]? = some c → vals[j]? = some v → VR κ S w c.v v ∧ c.v.one = true ∧ ∀ e, c.o = some e → ρ' (.cell k (off + j)) = some (v, e))
    (hkeep : ∀ k' j', ¬ (k' = k ∧ off ≤ j' ∧ j' < off + cs.length) → ρ' (.cell k' j') = ρ (.cell k' j'))
    (hown : ∀ c v e, ρ' c = some (v, e) → ∃ c0, ρ c0 = some (v, e))
    (hdis : ∀ c c' v v' e e', c ≠ c' → ρ' c = some (v, e) → ρ' c' = some (v', e') → v.ownBlock = none ∨ v.ownBlock ≠ v'.ownBlock) :
    Ext F κ S w κ S (w.setRow b (arr.toList.take off ++ vals ++ arr.toList.drop (off + vals.length)).toArray) ∧
    Inv P κ S F (w.setRow b (arr.toList.take off ++ vals ++ arr.toList.drop (off + vals.length)).toArray) (h.set k off cs) ρ' := by
  obtain ⟨arr0, T0, ha0, hsz, hcells⟩ := hi.blk k b blk hk hb
  rw [harr] at ha0
  injection ha0 with ha0
  injection ha0 with ha1 ha2
  subst ha1
  have hbm : b ∈ κ := List.mem_of_getElem? hk
  have hsize : (arr.toList.take off ++ vals ++ arr.toList.drop (off + vals.length)).length = arr.size := by simp; omega
  have he : Ext F κ S w κ S (w.setRow b (arr.toList.take off ++ vals ++ arr.toList.drop (off + vals.length)).toArray) := by
    have := Ext.of_blocks (F := F) (κ := κ) (S := S) (w := w) (w' := w.setRow b (arr.toList.take off ++ vals ++ arr.toList.drop (off + vals.length)).toArray) (S' := S) (ks := []) (by simp) (fun _ _ h => h)
      (fun b' o h => at_block (setRow_other w b b' _ (fun e => (hi.sIn b' o h).2 (e ▸ hbm))) o) (fun b' o h => at_block (setRow_other w b b' _ (fun e => (hi.fIn b' o h).2.1 (e ▸ hbm))) o) (fun b' arr' T' fr' h => ?_) (by simp) (Still.setRow harr _)
    · simpa using this
    · by_cases e : b' = b
      · subst e
        rw [harr] at h
        injection h with h
        injection h with h1 h2 h3
        subst h1 h2 h3
        exact ⟨_, setRow_heap w b' arr _ T (0, 0) harr, by simpa using hsize⟩
      · exact ⟨arr', by rw [setRow_other w b b' _ e]; exact h, rfl⟩
  refine ⟨he, by simpa [AHeap.set] using hi.len, hi.nd, fun k' b' cs' hk' hb' => ?_, fun b' o h => by simpa using hi.sIn b' o h, fun b' o h => by simpa using hi.fIn b' o h, hi.fUp, fun c v e hc => ?_, hdis⟩
  · simp only [AHeap.set, List.getElem?_modify] at hb'
    by_cases e : k = k'
    · subst e
      rw [hk] at hk'
      injection hk' with hk'
      subst hk'
      simp [hb] at hb'
      subst hb'
      refine ⟨_, T, setRow_heap w b arr _ T (0, 0) harr, by simp; omega, fun j c v hc hv' => ?_⟩
      simp only [List.getElem?_toArray] at hv'
      rw [← List.append_assoc, List.append_assoc, List.getElem?_append] at hc
      rw [List.append_assoc, List.getElem?_append] at hv'
      simp only [List.length_take, Array.length_toList] at hc hv'
      by_cases hj1 : j < off
      · rw [if_pos (by omega), List.getElem?_take, if_pos hj1] at hc hv'
        obtain ⟨g1, g2, g3⟩ := hcells j c v hc (by simpa using hv')
        exact ⟨g1.ext he, g2, fun e he' => by rw [hkeep k j (by omega)]; exact g3 e he'⟩
      · rw [if_neg (by omega), List.getElem?_append] at hc hv'
        have hm1 : min off blk.length = off := by omega
        have hm2 : min off arr.size = off := by omega
        rw [hm1] at hc
        rw [hm2] at hv'
        by_cases hj2 : j < off + cs.length
        · rw [if_pos (by omega)] at hc hv'
          obtain ⟨g1, g2, g3⟩ := hv (j - off) c v hc hv'
          exact ⟨g1.ext he, g2, fun e he' => by rw [← g3 e he']; congr 2; omega⟩
        · rw [if_neg (by omega), List.getElem?_drop] at hc hv'
          have e1 : off + cs.length + (j - off - cs.length) = j := by omega
          have e2 : off + vals.length + (j - off - vals.length) = j := by omega
          rw [e1] at hc
          rw [e2] at hv'
          obtain ⟨g1, g2, g3⟩ := hcells j c v hc (by simpa using hv')
          exact ⟨g1.ext he, g2, fun e he' => by rw [hkeep k j (by omega)]; exact g3 e he'⟩
    · have hb' : h.blocks[k']? = some cs' := by simpa [e] using hb'
      obtain ⟨arr', T', g1, g2, g3⟩ := hi.blk k' b' cs' hk' hb'
      have hne : b' ≠ b := fun e' => e (inj_of hi hk (e' ▸ hk'))
      refine ⟨arr', T', by rw [setRow_other w b b' _ hne]; exact g1, g2, fun j c v hc hv' => ?_⟩
      obtain ⟨f1, f2, f3⟩ := g3 j c v hc hv'
      exact ⟨f1.ext he, f2, fun e' he' => by rw [hkeep k' j (fun hh => e hh.1.symm)]; exact f3 e' he'⟩
  · obtain ⟨c0, hc0⟩ := hown c v e hc
    refine (hi.own c0 v e hc0).mono fun g cur _ hg hgk => ?_
    exact ⟨by rw [setRow_other w b g _ (fun e => hgk (e ▸ hbm))]; exact hg, hgk, fun o h1 h2 => ⟨h1, h2⟩⟩

/-- A new row of the call's own. -/
theorem Inv.row (hi : Inv P κ S F w h ρ) {n m : Nat} {arr : Array Value} {e : TypeId} {i : TypeInfo} (d : Nat) (hin : P.info? e = some i) (hn : arr.size = m * i.size) (hnm : n ≤ m) (hm : m ≤ maxLen) :
    Ext F κ S w κ (fun b o => S b o ∨ (b = w.heap.size ∧ o < n * i.size)) (w.alloc (.cells arr e)) ∧
    Inv P κ (fun b o => S b o ∨ (b = w.heap.size ∧ o < n * i.size)) F (w.alloc (.cells arr e)) h
      (fun c => if c = .tmp d then some (.slice (some ⟨w.heap.size, 0, none⟩) n m, e) else ρ c) := by
  have he : Ext F κ S w κ (fun b o => S b o ∨ (b = w.heap.size ∧ o < n * i.size)) (w.alloc (.cells arr e)) := by
    have := Ext.alloc (F := F) (κ := κ) (S := S) (w := w) arr e (S' := fun b o => S b o ∨ (b = w.heap.size ∧ o < n * i.size)) (ks := []) (fun _ _ h => .inl h) (fun b o h => (hi.sIn b o h).1) (fun b o h => (hi.fIn b o h).1) (by simp)
    simpa using this
  have hκ : ∀ b ∈ κ, b < w.heap.size := by
    intro b hb
    obtain ⟨k, hk⟩ := List.getElem?_of_mem hb
    obtain ⟨blk, hblk⟩ := cells_of hi hk
    obtain ⟨arr', T', h, _⟩ := hi.blk k b _ hk hblk
    exact (Array.getElem?_eq_some_iff.1 h).1
  refine ⟨he, hi.len, hi.nd, fun k b cs hk hb => ?_, fun b o hbo => ?_, fun b o hbo => ?_, hi.fUp, fun c v e' hc => ?_, fun c c' v v' e1 e2 hne hc hc' => ?_⟩
  · obtain ⟨arr', T', g1, g2, g3⟩ := hi.blk k b cs hk hb
    refine ⟨arr', T', by rw [heap_alloc_old w _ b (Array.getElem?_eq_some_iff.1 g1).1]; exact g1, g2, fun j c v hc hv => ?_⟩
    obtain ⟨f1, f2, f3⟩ := g3 j c v hc hv
    exact ⟨f1.ext he, f2, fun e' he' => by simp [f3 e' he']⟩
  · rcases hbo with hbo | ⟨rfl, _⟩
    · obtain ⟨g1, g2⟩ := hi.sIn b o hbo
      exact ⟨by simp; omega, g2⟩
    · exact ⟨by simp, fun hm => by have := hκ _ hm; omega⟩
  · obtain ⟨g1, g2, g3⟩ := hi.fIn b o hbo
    exact ⟨by simp; omega, g2, fun hs => by rcases hs with hs | ⟨rfl, _⟩; exact g3 hs; omega⟩
  · by_cases hcd : c = .tmp d
    · subst hcd
      simp at hc
      obtain ⟨rfl, rfl⟩ := hc
      refine .inr ⟨w.heap.size, n, m, arr, i, rfl, hin, heap_alloc_new w _, hnm, hm, hn, fun hm => by have := hκ _ hm; omega, fun o ho => ⟨?_, ?_⟩⟩
      · rintro (hs | ⟨_, hs⟩)
        · have := (hi.sIn _ _ hs).1; omega
        · omega
      · intro hf
        have := (hi.fIn _ _ hf).1; omega
    · rw [if_neg hcd] at hc
      refine (hi.own c v e' hc).mono fun g cur _ hg hgk => ?_
      have hlt := (Array.getElem?_eq_some_iff.1 hg).1
      exact ⟨by rw [heap_alloc_old w _ g hlt]; exact hg, hgk, fun o h1 h2 => ⟨fun hs => by rcases hs with hs | ⟨rfl, _⟩; exact h1 hs; omega, h2⟩⟩
  · have old : ∀ c v e, ρ c = some (v, e) → v.ownBlock ≠ some w.heap.size := by
      intro c v e hc hv
      have := ((hi.own c v e hc).lt hv).1
      omega
    by_cases h1 : c = .tmp d
    · subst h1
      rw [if_neg (fun e => hne e.symm)] at hc'
      simp at hc
      obtain ⟨rfl, rfl⟩ := hc
      right
      intro hh
      exact old c' v' e2 hc' (by rw [← hh]; rfl)
    · rw [if_neg h1] at hc
      by_cases h2 : c' = .tmp d
      · subst h2
        simp at hc'
        obtain ⟨rfl, rfl⟩ := hc'
        right
        intro hh
        exact old c v e1 hc (by rw [hh]; rfl)
      · rw [if_neg h2] at hc'
        exact hi.dis c c' v v' e1 e2 hne hc hc'

end
end Go.AW
end

section
namespace Go.AW
section
variable {P : Program} {κ κ' κ0 : List Nat} {S S' S0 F : Nat → Nat → Prop} {w w' w0 : World} {s : ASt} {a : Act} {ρ ρ' : Cls → Option (Value × TypeId)} {h : AHeap}

theorem Inv.heap (hi : Inv P κ S F w h ρ) (hw : w'.heap = w.heap) (hos : w'.os = w.os) (hout : w'.output = w.output) : Ext F κ S w κ S w' ∧ Inv P κ S F w' h ρ := by
  have hat : ∀ b o, w'.at_ b o = w.at_ b o := fun b o => at_block (by rw [hw]) o
  have he : Ext F κ S w κ S w' := by
    have := Ext.of_blocks (F := F) (κ := κ) (S := S) (w := w) (w' := w') (S' := S) (ks := []) (by rw [hw]; exact Nat.le_refl _) (fun _ _ h => h) (fun b o _ => hat b o) (fun b o _ => hat b o) (fun b arr T fr h => ⟨arr, by rw [hw]; exact h, rfl⟩) (by simp) (Still.heap hw hos hout)
    simpa using this
  refine ⟨he, hi.len, hi.nd, fun k b cs hk hb => ?_, fun b o h => by rw [hw]; exact hi.sIn b o h, fun b o h => by rw [hw]; exact hi.fIn b o h, hi.fUp, fun c v e hc => ?_, hi.dis⟩
  · obtain ⟨arr, T, g1, g2, g3⟩ := hi.blk k b cs hk hb
    refine ⟨arr, T, by rw [hw]; exact g1, g2, fun j c v hc hv => ?_⟩
    obtain ⟨f1, f2, f3⟩ := g3 j c v hc hv
    exact ⟨f1.ext he, f2, f3⟩
  · exact (hi.own c v e hc).mono fun g cur _ hg hgk => ⟨by rw [hw]; exact hg, hgk, fun o h1 h2 => ⟨h1, h2⟩⟩

def consumed (c : Option Cls) (h : AHeap) : AHeap := match c with | some c => h.consume c | none => h
def without (c : Option Cls) (ρ : Cls → Option (Value × TypeId)) : Cls → Option (Value × TypeId) := fun q => if some q = c then none else ρ q

theorem Inv.without (hi : Inv P κ S F w h ρ) (c : Option Cls) : Inv P κ S F w (consumed c h) (without c ρ) := by
  refine ⟨?_, hi.nd, fun k b cs hk hb => ?_, hi.sIn, hi.fIn, hi.fUp, fun c' v e hc => ?_, fun c1 c2 v1 v2 e1 e2 hne h1 h2 => ?_⟩
  · rw [hi.len]
    unfold consumed
    split
    · rename_i c; cases c <;> simp [AHeap.consume]
    · rfl
  · by_cases hcell : ∃ k' j', c = some (.cell k' j')
    · obtain ⟨k', j', rfl⟩ := hcell
      simp only [consumed, AHeap.consume, List.getElem?_modify] at hb
      obtain ⟨cs0, hcs0⟩ := cells_of hi hk
      obtain ⟨arr, T, g1, g2, g3⟩ := hi.blk k b cs0 hk hcs0
      by_cases e : k' = k
      · subst e
        simp [hcs0] at hb
        subst hb
        refine ⟨arr, T, g1, by simpa using g2, fun j c v hc hv => ?_⟩
        simp only [List.getElem?_modify] at hc
        by_cases ej : j' = j
        · subst ej
          cases hj : cs0[j']? with
          | none => simp [hj] at hc
          | some c0 =>
            simp [hj] at hc
            subst hc
            obtain ⟨f1, f2, f3⟩ := g3 j' c0 v hj hv
            exact ⟨f1, f2, by simp⟩
        · simp [ej] at hc
          obtain ⟨f1, f2, f3⟩ := g3 j c v hc hv
          exact ⟨f1, f2, fun e' he' => by simp only [AW.without]; rw [if_neg (by simp; omega)]; exact f3 e' he'⟩
      · have hb' : cs0 = cs := by simpa [e, hcs0] using hb
        subst hb'
        refine ⟨arr, T, g1, g2, fun j c v hc hv => ?_⟩
        obtain ⟨f1, f2, f3⟩ := g3 j c v hc hv
        exact ⟨f1, f2, fun e' he' => by simp only [AW.without]; rw [if_neg (by simp; omega)]; exact f3 e' he'⟩
    · have hh : consumed c h = h := by
        unfold consumed
        split
        · rename_i c
          cases c with
          | tmp n => rfl
          | cell k' j' => exact absurd ⟨k', j', rfl⟩ hcell
        · rfl
      rw [hh] at hb
      obtain ⟨arr, T, g1, g2, g3⟩ := hi.blk k b cs hk hb
      refine ⟨arr, T, g1, g2, fun j c' v hc hv => ?_⟩
      obtain ⟨f1, f2, f3⟩ := g3 j c' v hc hv
      exact ⟨f1, f2, fun e' he' => by simp only [AW.without]; rw [if_neg (fun hh => hcell ⟨k, j, hh.symm⟩)]; exact f3 e' he'⟩
  · simp only [AW.without] at hc
    split at hc
    · cases hc
    · exact hi.own c' v e hc
  · simp only [AW.without] at h1 h2
    split at h1
    · cases h1
    · split at h2
      · cases h2
      · exact hi.dis c1 c2 v1 v2 e1 e2 hne h1 h2

/-- A right is given a new name; its row is the same. -/
theorem Inv.give (hi : Inv P κ S F w h ρ) {v : Value} {e : TypeId} (d : Nat) (ho : Owned P κ S F w v e) (hd : ∀ c v' e', ρ c = some (v', e') → v.ownBlock = none ∨ v.ownBlock ≠ v'.ownBlock) :
    Inv P κ S F w h (fun c => if c = .tmp d then some (v, e) else ρ c) := by
  refine ⟨hi.len, hi.nd, fun k b cs hk hb => ?_, hi.sIn, hi.fIn, hi.fUp, fun c v' e' hc => ?_, fun c1 c2 v1 v2 e1 e2 hne h1 h2 => ?_⟩
  · obtain ⟨arr, T, g1, g2, g3⟩ := hi.blk k b cs hk hb
    refine ⟨arr, T, g1, g2, fun j c v' hc hv => ?_⟩
    obtain ⟨f1, f2, f3⟩ := g3 j c v' hc hv
    exact ⟨f1, f2, fun e' he' => by simp [f3 e' he']⟩
  · split at hc
    · injection hc with hc; injection hc with h1 h2; subst h1 h2; exact ho
    · exact hi.own c v' e' hc
  · split at h1
    · rename_i hc1
      injection h1 with h1; injection h1 with g1 g2; subst g1 g2
      rw [if_neg (fun hh => hne (hc1.trans hh.symm))] at h2
      exact hd c2 v2 e2 h2
    · split at h2
      · injection h2 with h2; injection h2 with g1 g2; subst g1 g2
        rcases hd c1 v1 e1 h1 with hh | hh
        · by_cases hv1 : v1.ownBlock = none
          · exact .inl hv1
          · right; rw [hh]; exact hv1
        · exact .inr (fun e => hh e.symm)
      · exact hi.dis c1 c2 v1 v2 e1 e2 hne h1 h2

/-- The spare places of a row of the call's own are filled. -/
theorem Inv.fill (hi : Inv P κ S F w h ρ) {g n k cap : Nat} {cur arr : Array Value} {e : TypeId} {i : TypeInfo} (d : Nat) (hin : P.info? e = some i) (hg : w.heap[g]? = some (.cells cur e (0, 0))) (hgk : g ∉ κ)
    (hcap : n + k ≤ cap) (hcm : cap ≤ maxLen) (hsz : cur.size = cap * i.size) (hfree : ∀ o, n * i.size ≤ o → ¬ S g o ∧ ¬ F g o) (hno : ∀ c v e, ρ c = some (v, e) → v.ownBlock ≠ some g)
    (ha : arr.size = cur.size) (hsame : ∀ o, o < n * i.size → arr[o]? = cur[o]?) :
    Ext F κ S w κ (fun b o => S b o ∨ (b = g ∧ o < (n + k) * i.size)) (w.setRow g arr) ∧
    Inv P κ (fun b o => S b o ∨ (b = g ∧ o < (n + k) * i.size)) F (w.setRow g arr) h (fun c => if c = .tmp d then some (.slice (some ⟨g, 0, none⟩) (n + k) cap, e) else ρ c) := by
  have hlt := (Array.getElem?_eq_some_iff.1 hg).1
  have hat : ∀ o, S g o → o < n * i.size := fun o hs => by
    rcases Nat.lt_or_ge o (n * i.size) with h | h
    · exact h
    · exact absurd hs (hfree o h).1
  have hatF : ∀ o, F g o → o < n * i.size := fun o hs => by
    rcases Nat.lt_or_ge o (n * i.size) with h | h
    · exact h
    · exact absurd hs (hfree o h).2
  have hnk : n * i.size ≤ (n + k) * i.size := Nat.mul_le_mul_right _ (by omega)
  have he : Ext F κ S w κ (fun b o => S b o ∨ (b = g ∧ o < (n + k) * i.size)) (w.setRow g arr) := by
    have := Ext.of_blocks (F := F) (κ := κ) (S := S) (w := w) (w' := w.setRow g arr) (S' := fun b o => S b o ∨ (b = g ∧ o < (n + k) * i.size)) (ks := []) (by simp) (fun _ _ h => .inl h) (fun b o hs => ?_) (fun b o hs => ?_) (fun b arr' T fr hb => ?_) (by simp) (Still.setRow hg _)
    · simpa using this
    · by_cases e' : b = g
      · subst e'
        simp only [World.at_, World.cell?, setRow_heap w b cur arr e (0, 0) hg, hg, Option.isSome_none, Bool.false_eq_true, if_false]
        exact hsame o (hat o hs)
      · exact at_block (setRow_other w g b _ e') o
    · by_cases e' : b = g
      · subst e'
        simp only [World.at_, World.cell?, setRow_heap w b cur arr e (0, 0) hg, hg, Option.isSome_none, Bool.false_eq_true, if_false]
        exact hsame o (hatF o hs)
      · exact at_block (setRow_other w g b _ e') o
    · by_cases e' : b = g
      · subst e'
        rw [hg] at hb
        injection hb with hb; injection hb with h1 h2 h3; subst h1 h2 h3
        exact ⟨arr, setRow_heap w b cur arr e (0, 0) hg, ha⟩
      · exact ⟨arr', by rw [setRow_other w g b _ e']; exact hb, rfl⟩
  refine ⟨he, hi.len, hi.nd, fun k' b cs hk hb => ?_, fun b o hbo => ?_, fun b o hbo => ?_, hi.fUp, fun c v e' hc => ?_, fun c1 c2 v1 v2 e1 e2 hne h1 h2 => ?_⟩
  · obtain ⟨arr', T, g1, g2, g3⟩ := hi.blk k' b cs hk hb
    have hne : b ≠ g := fun e' => hgk (e' ▸ List.mem_of_getElem? hk)
    refine ⟨arr', T, by rw [setRow_other w g b _ hne]; exact g1, g2, fun j c v' hc hv => ?_⟩
    obtain ⟨f1, f2, f3⟩ := g3 j c v' hc hv
    exact ⟨f1.ext he, f2, fun e' he' => by simp [f3 e' he']⟩
  · rcases hbo with hs | ⟨rfl, _⟩
    · simpa using hi.sIn b o hs
    · exact ⟨by simpa using hlt, hgk⟩
  · obtain ⟨g1, g2, g3⟩ := hi.fIn b o hbo
    refine ⟨by simpa using g1, g2, fun hs => ?_⟩
    rcases hs with hs | ⟨rfl, ho⟩
    · exact g3 hs
    · rcases Nat.lt_or_ge o (n * i.size) with h' | h'
      · exact (hfree (n * i.size) (Nat.le_refl _)).2 (hi.fUp b o _ hbo (by omega))
      · exact (hfree o h').2 hbo
  · split at hc
    · injection hc with hc; injection hc with h1 h2; subst h1 h2
      refine .inr ⟨g, n + k, cap, arr, i, rfl, hin, setRow_heap w g cur arr _ (0, 0) hg, hcap, hcm, by rw [ha, hsz], hgk, fun o ho => ⟨fun hs => ?_, (hfree o (by omega)).2⟩⟩
      rcases hs with hs | ⟨_, hs⟩
      · exact (hfree o (by omega)).1 hs
      · omega
    · have hvg := hno c v e' hc
      refine (hi.own c v e' hc).mono fun g' cur' hv' hg' hgk' => ?_
      have hne : g' ≠ g := fun e'' => hvg (by rw [hv', e''])
      exact ⟨by rw [setRow_other w g g' _ hne]; exact hg', hgk', fun o h1 h2 => ⟨fun hs => by rcases hs with hs | ⟨e'', _⟩; exact h1 hs; exact hne e'', h2⟩⟩
  · split at h1
    · rename_i hc1
      injection h1 with h1; injection h1 with g1 g2; subst g1 g2
      rw [if_neg (fun hh => hne (hc1.trans hh.symm))] at h2
      exact .inr (fun e' => hno c2 v2 e2 h2 (by rw [← e']; rfl))
    · split at h2
      · injection h2 with h2; injection h2 with g1 g2; subst g1 g2
        exact .inr (fun e' => hno c1 v1 e1 h1 (by rw [e']; rfl))
      · exact hi.dis c1 c2 v1 v2 e1 e2 hne h1 h2

end
end Go.AW
end

section
namespace Go.AW
section
variable {P : Program} {κ κ' κ0 : List Nat} {S S' S0 F : Nat → Nat → Prop} {w w' w0 : World} {s : ASt} {a : Act} {ρ ρ' : Cls → Option (Value × TypeId)} {h : AHeap}

theorem flatten_len {es : List (List AV)} {z : Nat} (hz : ∀ e ∈ es, e.length = z) : es.flatten.length = es.length * z := by
  induction es with
  | nil => simp
  | cons x es ih =>
    rw [List.flatten_cons, List.length_append, ih (fun e he => hz e (List.mem_cons_of_mem _ he)), hz x (by simp), List.length_cons, Nat.succ_mul]
    omega

theorem row_VR {g z cap : Nat} {arr : Array Value} {e : TypeId} {fr : Nat × Nat} {es : List (List AV)} (hg : w.heap[g]? = some (.cells arr e fr)) (hz : ∀ x ∈ es, x.length = z) (hcap : es.length ≤ cap)
    (hc : ∀ (j : Nat) (c : AV), es.flatten[j]? = some c → S g j ∧ c.one = true ∧ ∃ u, arr[j]? = some u ∧ VR κ S w c u) :
    VR κ S w (.slice es) (.slice (some ⟨g, 0, none⟩) es.length cap) := by
  have hat : ∀ j, w.at_ g (0 + j) = arr[j]? := by intro j; simp [World.at_, World.cell?, hg]
  refine .slice (sz := z) rfl hcap hz (fun j c hj => ?_) (fun j c v hj hv => ?_)
  · obtain ⟨h1, h2, u, hu, _⟩ := hc j c hj
    exact ⟨by simpa using h1, h2, by rw [hat, hu]; rfl⟩
  · obtain ⟨_, _, u, hu, hr⟩ := hc j c hj
    rw [hat, hu] at hv
    injection hv with hv
    subst hv
    exact hr

/-- The values of a slice's cells. -/
theorem row_values {es : List (List AV)} {b off n cap z : Nat} (hv : VR κ S w (.slice es) (.slice (some ⟨b, off, none⟩) n cap)) (hz : ∀ x ∈ es, x.length = z) :
    ∃ vals : List Value, vals.length = n * z ∧ (∀ j u, vals[j]? = some u → w.cell? ((⟨b, off, none⟩ : Addr).add j) = some u) ∧ (∀ u ∈ vals, u.oneCell' = true) ∧
      ∀ (j : Nat) (c : AV) (u : Value), es.flatten[j]? = some c → vals[j]? = some u → VR κ S w c u := by
  cases hv with
  | slice0 => exact ⟨[], by simp, by simp, by simp, by simp⟩
  | slice h1 h2 h3 hS hr =>
    subst h1
    have hfl := flatten_len hz
    have hget : ∀ j, j < es.length * z → ∃ c u, es.flatten[j]? = some c ∧ w.at_ b (off + j) = some u ∧ VR κ S w c u ∧ u.oneCell' = true := by
      intro j hj
      have hj' : j < es.flatten.length := by omega
      obtain ⟨_, g2, g3⟩ := hS j _ (List.getElem?_eq_getElem hj')
      obtain ⟨u, hu⟩ := Option.isSome_iff_exists.1 g3
      have hvr := hr j _ u (List.getElem?_eq_getElem hj') hu
      exact ⟨_, u, List.getElem?_eq_getElem hj', hu, hvr, hvr.one g2⟩
    refine ⟨(List.range (es.length * z)).map fun j => (w.at_ b (off + j)).getD undef, by simp, fun j u hj => ?_, fun u hu => ?_, fun j c u hc hu => ?_⟩
    · rw [List.getElem?_map] at hj
      by_cases hlt : j < es.length * z
      · obtain ⟨c, u', _, hu', _⟩ := hget j hlt
        simp [hlt, hu'] at hj
        subst hj
        rw [add_at]; exact hu'
      · simp [hlt] at hj
    · obtain ⟨j, hj, rfl⟩ := List.mem_map.1 hu
      obtain ⟨c, u', _, hu', _, ho⟩ := hget j (by simpa using hj)
      rw [hu']; exact ho
    · have hlt : j < es.length * z := by rw [← hfl]; exact (List.getElem?_eq_some_iff.1 hc).1
      obtain ⟨c', u', hc', hu', hvr, _⟩ := hget j hlt
      rw [List.getElem?_map] at hu
      simp [hlt, hu'] at hu
      rw [hc] at hc'
      injection hc' with hc'
      subst hu hc'
      exact hvr

theorem run_append_zero {t ty e : TypeId} {i : TypeInfo} {base base' : Option Addr} {n cap cap' : Nat} (ht : P.underlying t = some (.slice e)) (hi : P.info? e = some i) (hn : n ≤ cap) :
    (Builtin.append_ #[t, t] ty #[.slice base n cap, .slice base' 0 cap']).run P w = .ok (.slice base n cap) w := by
  cases base' <;> cases base <;> simp [Builtin.append_, run_under ht, sizeOf, typeInfo, hi, Builtin.lenOf, Builtin.firstCells, loadCells, loadCellsFrom, hn, storeCells]

end
end Go.AW
end

section
namespace Go.AW
section
variable {P : Program} {κ κ' κ0 : List Nat} {S S' S0 F : Nat → Nat → Prop} {w w' w0 : World} {s : ASt} {a : Act} {ρ ρ' : Cls → Option (Value × TypeId)} {h : AHeap}

theorem append_sound (hi : Inv P κ S F w h ρ) {x y : AV} {v u : Value} {cx : Option (Cls × TypeId)} {t ty e : TypeId} {es ys : List (List AV)} {c : Option Cls} {i : TypeInfo} {zv : Value} (d : Nat)
    (ha : appA x cx e = some (es, c)) (hn : newsA y = some ys) (hx : VR κ S w x v) (hy : VR κ S w y u) (hc : ∀ k e', cx = some (k, e') → ρ k = some (v, e'))
    (ht : P.underlying t = some (.slice e)) (hinf : P.info? e = some i) (hz : i.zero = some zv) (hzs : zv.cells.size = i.size) (hpos : 0 < i.size)
    (hb : (es.length + ys.length) * i.bytes ≤ 140737488355328) (hm : es.length + ys.length ≤ 9223372036854775807) (hes : ∀ x ∈ es, x.length = i.size) (hys : ∀ x ∈ ys, x.length = i.size) :
    ∃ v' w' S', (Builtin.append_ #[t, t] ty #[v, u]).run P w = .ok v' w' ∧ Ext F κ S w κ S' w' ∧
      Inv P κ S' F w' (consumed c h) (fun q => if q = .tmp d then some (v', e) else without c ρ q) ∧ VR κ S' w' (.slice (es ++ ys)) v' := by
  have hiw := hi.without c
  -- what is appended to
  have hvv : VR κ S w (.slice es) v ∧ Owned P κ S F w v e ∧ ∀ q v' e', without c ρ q = some (v', e') → v.ownBlock = none ∨ v.ownBlock ≠ v'.ownBlock := by
    unfold appA at ha
    split at ha
    · injection ha with ha; injection ha with h1 h2; subst h1 h2
      cases hx
      exact ⟨.slice0, .inl rfl, fun _ _ _ _ => .inl rfl⟩
    · rename_i es' k e'
      split at ha
      · rename_i he
        injection ha with ha; injection ha with h1 h2; subst h1 h2 he
        have hρ := hc k _ rfl
        refine ⟨hx, hi.own _ _ _ hρ, fun q v' e1 hq => ?_⟩
        simp only [without] at hq
        split at hq
        · cases hq
        · rename_i hne
          exact hi.dis k q v v' _ _ (fun hh => hne (by rw [hh])) hρ hq
      · cases ha
    · cases ha
  obtain ⟨hve, hown, hdis⟩ := hvv
  -- what is appended
  have huu : ∃ base cap, u = .slice base ys.length cap ∧ VR κ S w (.slice ys) u ∧ (ys ≠ [] → ∃ b off, base = some ⟨b, off, none⟩) := by
    unfold newsA at hn
    split at hn
    · injection hn with hn; subst hn
      cases hy
      exact ⟨none, 0, rfl, .slice0, by simp⟩
    · injection hn with hn; subst hn
      obtain ⟨base, cap, hu, hbase⟩ := slice_parts hy
      exact ⟨base, cap, hu, hy, fun hne => by obtain ⟨b, off, hb, _⟩ := hbase hne; exact ⟨b, off, hb⟩⟩
    · cases hn
  obtain ⟨ubase, ucap, rfl, hyv, hub⟩ := huu
  by_cases hy0 : ys = []
  · subst hy0
    have hrun : (Builtin.append_ #[t, t] ty #[v, .slice ubase 0 ucap]).run P w = .ok v w := by
      rcases hown with rfl | ⟨g, n, cap, cur, i', rfl, h1, h2, h3, h4, h5, h6, h7⟩
      · exact run_append_zero ht hinf (Nat.le_refl _)
      · exact run_append_zero ht hinf h3
    refine ⟨v, w, S, hrun, Ext.refl κ S w, hiw.give d ?_ hdis, by simpa using hve⟩
    exact hown
  · obtain ⟨b, off, rfl⟩ := hub hy0
    obtain ⟨news, hnl, hnc, hn1, hnv⟩ := row_values hyv hys
    have hypos : 0 < ys.length := List.length_pos_iff.2 hy0
    have hmx : es.length + ys.length ≤ maxLen := by simp only [maxLen]; omega
    -- a new row
    have grown : ∀ (olds : List Value) (cap old : Nat), olds.length = es.length * i.size → (∀ (j : Nat) (c : AV) (u : Value), es.flatten[j]? = some c → olds[j]? = some u → VR κ S w c u ∧ c.one = true) →
        es.length + ys.length ≤ cap → cap ≤ maxLen →
        ∃ S', Ext F κ S w κ S' (w.drew.alloc (.cells (olds.toArray ++ news.toArray ++ Builtin.zeroCells zv.cells (cap - (es.length + ys.length))) e)) ∧
          Inv P κ S' F (w.drew.alloc (.cells (olds.toArray ++ news.toArray ++ Builtin.zeroCells zv.cells (cap - (es.length + ys.length))) e)) (consumed c h)
            (fun q => if q = .tmp d then some (.slice (some ⟨w.heap.size, 0, none⟩) (es.length + ys.length) cap, e) else without c ρ q) ∧
          VR κ S' (w.drew.alloc (.cells (olds.toArray ++ news.toArray ++ Builtin.zeroCells zv.cells (cap - (es.length + ys.length))) e)) (.slice (es ++ ys)) (.slice (some ⟨w.heap.size, 0, none⟩) (es.length + ys.length) cap) := by
      intro olds cap old hol hov hcap hcm
      obtain ⟨he1, hi1⟩ := hiw.heap (w' := w.drew) rfl rfl rfl
      have hasz : (olds.toArray ++ news.toArray ++ Builtin.zeroCells zv.cells (cap - (es.length + ys.length))).size = cap * i.size := by
        simp only [Array.size_append, List.size_toArray, size_zeroCells, hzs, hol, hnl, ← Nat.add_mul]
        congr 1
        omega
      obtain ⟨he2, hi2⟩ := hi1.row (n := es.length + ys.length) (m := cap) d hinf hasz hcap hcm
      have he := he1.trans he2
      refine ⟨_, he, hi2, ?_⟩
      have hg : (w.drew.alloc (.cells (olds.toArray ++ news.toArray ++ Builtin.zeroCells zv.cells (cap - (es.length + ys.length))) e)).heap[w.heap.size]? = some (.cells (olds.toArray ++ news.toArray ++ Builtin.zeroCells zv.cells (cap - (es.length + ys.length))) e) := heap_alloc_new w.drew _
      have hall : ∀ x ∈ es ++ ys, x.length = i.size := fun x hx => by rcases List.mem_append.1 hx with hx | hx; exact hes x hx; exact hys x hx
      have := row_VR (κ := κ) (es := es ++ ys) (cap := cap) hg hall (by simpa using hcap) (S := fun b o => S b o ∨ (b = w.drew.heap.size ∧ o < (es.length + ys.length) * i.size)) ?_
      · simpa using this
      · intro j c' hj
        have hjl := (List.getElem?_eq_some_iff.1 hj).1
        have hfl := flatten_len hall
        rw [List.length_append] at hfl
        have hjn : j < (es.length + ys.length) * i.size := by omega
        rw [List.flatten_append, List.getElem?_append, flatten_len hes] at hj
        refine ⟨.inr ⟨rfl, hjn⟩, ?_⟩
        by_cases hlt : j < es.length * i.size
        · rw [if_pos hlt] at hj
          have hlt' : j < olds.length := by omega
          obtain ⟨g1, g2⟩ := hov j c' _ hj (List.getElem?_eq_getElem hlt')
          refine ⟨g2, olds[j], ?_, g1.ext he⟩
          rw [Array.getElem?_append, if_pos (by simp; omega), Array.getElem?_append, if_pos (by simpa using hlt')]
          simp [hlt']
        · rw [if_neg hlt] at hj
          have hj2 : j - es.length * i.size < news.length := by rw [hnl]; rw [Nat.add_mul] at hjn; omega
          have hvr := hnv _ c' _ hj (List.getElem?_eq_getElem hj2)
          have hone : c'.one = true := by
            cases hyv with
            | slice0 => exact absurd rfl hy0
            | slice h1 h2 h3 hS hr => exact (hS _ c' hj).2.1
          refine ⟨hone, news[j - es.length * i.size], ?_, hvr.ext he⟩
          rw [Array.getElem?_append, if_pos (by simp; omega), Array.getElem?_append, if_neg (by simp; omega)]
          simp only [List.size_toArray, hol, List.getElem?_toArray]
          exact List.getElem?_eq_getElem hj2
    rcases hown with rfl | ⟨g, n, cap, cur, i', rfl, h1, h2, h3, h4, h5, h6, h7⟩
    · -- nil
      have he0 : es = [] := by
        have := hve.cap
        exact List.eq_nil_of_length_eq_zero this.symm
      subst he0
      have hr := run_append_nil (P := P) w t ty e i zv ht hinf hz ⟨b, off, none⟩ ys.length ucap news hnl hnc hypos (by simp at hm; omega) (by simp at hb; omega)
      obtain ⟨S', g1, g2, g3⟩ := grown [] (grownCap w ys.length 0 e) 0 (by simp) (by simp) (by simpa using grownCap_ge w ys.length 0 e) (by simpa using grownCap_le_maxLen w ys.length 0 e (by simpa using hmx))
      simp only [List.length_nil, Nat.zero_add, Array.empty_append] at g1 g2 g3
      exact ⟨_, _, S', hr, g1, g2, g3⟩
    · obtain rfl : i' = i := by rw [hinf] at h1; injection h1 with h1; exact h1.symm
      obtain rfl : n = es.length := hve.cap
      have hcur : ∀ j, j < es.length * i'.size → ∃ u, cur[j]? = some u := fun j hj => by
        have : j < cur.size := by rw [h5]; exact Nat.lt_of_lt_of_le hj (Nat.mul_le_mul_right _ h3)
        exact ⟨cur[j], by simp [this]⟩
      have hat : ∀ j, w.at_ g (0 + j) = cur[j]? := by intro j; simp [World.at_, World.cell?, h2]
      have hes' : ∀ (j : Nat) (c : AV), es.flatten[j]? = some c → S g j ∧ c.one = true ∧ ∀ u, cur[j]? = some u → VR κ S w c u := by
        intro j c' hj
        cases hve with
        | slice0 => simp at hj
        | slice g1 g2 g3 hS hr =>
          obtain ⟨f1, f2, f3⟩ := hS j c' hj
          refine ⟨by simpa using f1, f2, fun u hu => hr j c' u hj (by rw [hat, hu])⟩
      by_cases hroom : es.length + ys.length ≤ cap
      · -- in place
        have hfit : es.length * i'.size + news.length ≤ cur.size := by rw [hnl, h5, ← Nat.add_mul]; exact Nat.mul_le_mul_right _ hroom
        have hr := run_append_room (P := P) w t ty e i' ht hinf g es.length cap cur h2 ⟨b, off, none⟩ ys.length ucap news hnl hnc hn1 hroom hfit
        have hno : ∀ q v' e', without c ρ q = some (v', e') → v'.ownBlock ≠ some g := by
          intro q v' e' hq hh
          rcases hdis q v' e' hq with hd | hd
          · simp [Value.ownBlock] at hd
          · exact hd (by rw [hh]; rfl)
        have hasz : (cur.toList.take (es.length * i'.size) ++ news ++ cur.toList.drop (es.length * i'.size + news.length)).toArray.size = cur.size := by simp; omega
        obtain ⟨he, hi2⟩ := hiw.fill (k := ys.length) (arr := (cur.toList.take (es.length * i'.size) ++ news ++ cur.toList.drop (es.length * i'.size + news.length)).toArray) d hinf h2 h6 hroom h4 h5 h7 hno hasz (by
          intro o ho
          simp only [List.getElem?_toArray]
          rw [List.append_assoc, List.getElem?_append, if_pos (by simp; omega), List.getElem?_take, if_pos ho]
          simp)
        refine ⟨_, _, _, hr, he, hi2, ?_⟩
        have hall : ∀ x ∈ es ++ ys, x.length = i'.size := fun x hx => by rcases List.mem_append.1 hx with hx | hx; exact hes x hx; exact hys x hx
        have := row_VR (κ := κ) (es := es ++ ys) (cap := cap) (setRow_heap w g cur (cur.toList.take (es.length * i'.size) ++ news ++ cur.toList.drop (es.length * i'.size + news.length)).toArray e (0, 0) h2) hall (by simpa using hroom)
          (S := fun b o => S b o ∨ (b = g ∧ o < (es.length + ys.length) * i'.size)) ?_
        · simpa using this
        · intro j c' hj
          have hjl := (List.getElem?_eq_some_iff.1 hj).1
          have hfl := flatten_len hall
          rw [List.length_append] at hfl
          have hjn : j < (es.length + ys.length) * i'.size := by omega
          rw [List.flatten_append, List.getElem?_append, flatten_len hes] at hj
          refine ⟨.inr ⟨rfl, hjn⟩, ?_⟩
          simp only [List.getElem?_toArray]
          by_cases hlt : j < es.length * i'.size
          · rw [if_pos hlt] at hj
            obtain ⟨f1, f2, f3⟩ := hes' j c' hj
            obtain ⟨u, hu⟩ := hcur j hlt
            refine ⟨f2, u, ?_, (f3 u hu).ext he⟩
            rw [List.append_assoc, List.getElem?_append, if_pos (by simp; omega), List.getElem?_take, if_pos hlt]
            simpa using hu
          · rw [if_neg hlt] at hj
            have hj2 : j - es.length * i'.size < news.length := by rw [hnl]; rw [Nat.add_mul] at hjn; omega
            have hvr := hnv _ c' _ hj (List.getElem?_eq_getElem hj2)
            have hone : c'.one = true := by
              cases hyv with
              | slice0 => exact absurd rfl hy0
              | slice h1 h2 h3 hS hr => exact (hS _ c' hj).2.1
            refine ⟨hone, news[j - es.length * i'.size], ?_, hvr.ext he⟩
            have hmin : min (es.length * i'.size) cur.toList.length = es.length * i'.size := by simp; omega
            rw [List.append_assoc, List.getElem?_append, if_neg (by rw [List.length_take, hmin]; omega), List.length_take, hmin, List.getElem?_append, if_pos hj2]
            exact List.getElem?_eq_getElem hj2
      · -- it grows
        obtain ⟨olds, hol, hoc, _, hov⟩ := row_values hve hes
        have hr := run_append_grow (P := P) w t ty e i' zv ht hinf hz ⟨g, 0, none⟩ es.length cap olds hol hoc ⟨b, off, none⟩ ys.length ucap news hnl hnc (by omega) (by omega) (growslice_fits (by omega) hb)
        obtain ⟨S', g1, g2, g3⟩ := grown olds (grownCap w (es.length + ys.length) cap e) cap hol (fun j c' u hj hu => ⟨hov j c' u hj hu, (hes' j c' hj).2.1⟩) (grownCap_ge w _ _ e) (grownCap_le_maxLen w _ _ e hmx)
        exact ⟨_, _, S', hr, g1, g2, g3⟩

end
end Go.AW
end

section
namespace Go.AW
section
variable {P : Program} {κ κ' κ0 : List Nat} {S S' S0 F : Nat → Nat → Prop} {w w' w0 : World} {s : ASt} {a : Act} {ρ ρ' : Cls → Option (Value × TypeId)} {h : AHeap}

/-- Some later moment, at which K holds of the frame as it is told. -/
def Later (P : Program) (N : Nat) (κ0 : List Nat) (S0 F : Nat → Nat → Prop) (w0 : World) (K : ASt → Prop) (a : Act) (w : World) : Prop :=
  ∃ κ S s ρ, Ext F κ0 S0 w0 κ S w ∧ FRel P κ S F w s a ρ ∧ a.tmps.size = N ∧ K s

def LaterQ (P : Program) (N : Nat) (κ0 : List Nat) (S0 F : Nat → Nat → Prop) (w0 : World) (Q : AExit → ASt → Prop) : Exit → Act → World → Prop
  | .normal, a, w => Later P N κ0 S0 F w0 (Q .normal) a w
  | .exit id, a, w => Later P N κ0 S0 F w0 (Q (.exit id)) a w
  | .ret, a, w => Later P N κ0 S0 F w0 (Q .ret) a w
  | .panic chain, a, w => ∃ κ S s ρ x v, Ext F κ0 S0 w0 κ S w ∧ FRel P κ S F w s a ρ ∧ VR κ S w x v ∧ chain = [{ v := v, recovered := false, goexit := false }] ∧ Q (.panic x) s
  | _, _, _ => False

theorem FRel.bare (hr : FRel P κ S F w s a ρ) : FRel P κ S F w s.bare a ρ :=
  ⟨hr.inv, fun _ => .raw, fun t c e hc => by simp [ASt.bare] at hc, hr.df⟩

theorem FRel.dropCl (hr : FRel P κ S F w s a ρ) {cl' : Nat → Option (Cls × TypeId)} (hc : ∀ t c e, cl' t = some (c, e) → s.cl t = some (c, e)) : FRel P κ S F w { s with cl := cl' } a ρ :=
  ⟨hr.inv, hr.tm, fun t c e h => hr.cl t c e (hc t c e h), hr.df⟩

theorem killf_some {k c : Cls} {x : Option (Cls × TypeId)} {e : TypeId} (h : killf k x = some (c, e)) : x = some (c, e) ∧ c ≠ k := by
  unfold killf at h
  split at h
  · split at h
    · cases h
    · rename_i hne; injection h with h; injection h with h1 h2; subst h1 h2; exact ⟨rfl, hne⟩
  · cases h

theorem killc_some {c : Cls} {x : Option (Cls × TypeId)} {e : TypeId} (h : killc x = some (c, e)) : x = some (c, e) ∧ ∃ n, c = .tmp n := by
  unfold killc at h
  split at h
  · injection h with h; injection h with h1 h2; subst h1 h2; exact ⟨rfl, _, rfl⟩
  · cases h

theorem killRow_some {k off n : Nat} {c : Cls} {x : Option (Cls × TypeId)} {e : TypeId} (h : killRow k off n x = some (c, e)) : x = some (c, e) ∧ ∀ j, c = .cell k j → ¬ (off ≤ j ∧ j < off + n) := by
  unfold killRow at h
  split at h
  · rename_i k' j e'
    split at h
    · cases h
    · rename_i hne
      injection h with h; injection h with h1 h2; subst h1 h2
      exact ⟨rfl, fun j' hj hh => by injection hj with h1 h2; subst h1 h2; exact hne ⟨rfl, hh⟩⟩
  · rename_i hno
    refine ⟨h, fun j hj _ => ?_⟩
    subst hj
    exact hno k j e h

theorem killTmp_some {cx : Option (Cls × TypeId)} {c : Cls} {x : Option (Cls × TypeId)} {e : TypeId} (h : killTmp cx x = some (c, e)) : x = some (c, e) ∧ ∀ n e', cx = some (.tmp n, e') → c ≠ .tmp n := by
  unfold killTmp at h
  split at h
  · rename_i n e'
    obtain ⟨h1, h2⟩ := killf_some h
    exact ⟨h1, fun n' e'' hh => by injection hh with hh; injection hh with hh _; injection hh with hh; subst hh; exact h2⟩
  · rename_i hno
    exact ⟨h, fun n e' hh => absurd hh (hno n e')⟩

theorem AHeap.row_spec {h : AHeap} {k off n : Nat} {cs : List Cell} (hh : h.row k off n = some cs) : ∃ blk, h.blocks[k]? = some blk ∧ off + n ≤ blk.length ∧ cs = (blk.drop off).take n := by
  unfold AHeap.row at hh
  split at hh
  · rename_i b hb
    split at hh
    · rename_i hle; injection hh with hh; exact ⟨b, hb, hle, hh.symm⟩
    · cases hh
  · cases hh

/-- What a pointer into a box reads. -/
theorem box_cells (hi : Inv P κ S F w h ρ) {k off n : Nat} {v : Value} {blk : List Cell} (hv : VR κ S w (.ptr k off) v) (hb : h.blocks[k]? = some blk) (hle : off + n ≤ blk.length) :
    ∃ b arr T, v = .pointer (some ⟨b, off, none⟩) ∧ κ[k]? = some b ∧ w.heap[b]? = some (.cells arr T (0, 0)) ∧ arr.size = blk.length ∧
      (∀ j c u, blk[j]? = some c → arr[j]? = some u → VR κ S w c.v u ∧ c.v.one = true ∧ ∀ e, c.o = some e → ρ (.cell k j) = some (u, e)) ∧
      (loadCells ⟨b, off, none⟩ n).run P w = .ok (arr.extract off (off + n)) w := by
  cases hv with
  | ptr hk =>
    rename_i b
    obtain ⟨arr, T, h1, h2, h3⟩ := hi.blk k b blk hk hb
    refine ⟨b, arr, T, rfl, hk, h1, h2, h3, ?_⟩
    have := run_loadCells_list (P := P) w ⟨b, off, none⟩ (arr.extract off (off + n)).toList (fun j u hj => by
      rw [Array.getElem?_toList, Array.getElem?_extract] at hj
      split at hj
      · rw [add_at, ← hj]
        simp [World.cell?, h1]
      · cases hj)
    have hl : (arr.extract off (off + n)).toList.length = n := by simp; omega
    rw [hl, Array.toArray_toList] at this
    exact this

end
end Go.AW
end

section
namespace Go.AW
section
variable {P : Program} {κ κ' κ0 : List Nat} {S S' S0 F : Nat → Nat → Prop} {w w' w0 : World} {s : ASt} {a : Act} {ρ ρ' : Cls → Option (Value × TypeId)} {h : AHeap}
  {o : Oper} {K : ASt → Prop} {Q : AExit → ASt → Prop} {N : Nat}

theorem put_size (a : Act) (d : Option Tmp) (v : Value) : (a.put d v).tmps.size = a.tmps.size := by
  cases d <;> simp [Act.put]

/-- A value was made, in a world that is later: the rest goes on. -/
theorem wp_value {v' : Value} {w1 : World} (hrun : (execOp a.eval o).run P w = .ok (.value v') w1) {s1 : ASt} {κ1 : List Nat} {S1 : Nat → Nat → Prop} {ρ1 : Cls → Option (Value × TypeId)} {v : AV} {c : Option (Cls × TypeId)}
    (he0 : Ext F κ0 S0 w0 κ S w) (he : Ext F κ S w κ1 S1 w1) (hr : FRel P κ1 S1 F w1 s1 a ρ1) (hN : a.tmps.size = N) (hd : ∀ d, o.dst = some d → d < N) (hv : VR κ1 S1 w1 v v') (hc : ∀ k e, c = some (k, e) → ρ1 k = some (v', e))
    (hK : K (s1.put o.dst v c)) : o.wp P a w (Later P N κ0 S0 F w0 K) (LaterQ P N κ0 S0 F w0 Q) := by
  unfold Oper.wp
  rw [hrun]
  exact ⟨κ1, S1, _, ρ1, he0.trans he, hr.put hv (fun d h => by rw [hN]; exact hd d h) hc, (put_size a _ _).trans hN, hK⟩

theorem wp_skip' {w1 : World} (hrun : (execOp a.eval o).run P w = .ok .skip w1) {s1 : ASt} {κ1 : List Nat} {S1 : Nat → Nat → Prop} {ρ1 : Cls → Option (Value × TypeId)}
    (he0 : Ext F κ0 S0 w0 κ S w) (he : Ext F κ S w κ1 S1 w1) (hr : FRel P κ1 S1 F w1 s1 a ρ1) (hN : a.tmps.size = N) (hd : ∀ d, o.dst = some d → d < N)
    (hK : K (s1.put o.dst .raw)) : o.wp P a w (Later P N κ0 S0 F w0 K) (LaterQ P N κ0 S0 F w0 Q) := by
  unfold Oper.wp
  rw [hrun]
  exact ⟨κ1, S1, _, ρ1, he0.trans he, hr.put .raw (fun d h => by rw [hN]; exact hd d h) (by simp), (put_size a _ _).trans hN, hK⟩

theorem pure_op (hr : FRel P κ S F w s a ρ) (he0 : Ext F κ0 S0 w0 κ S w) (hN : a.tmps.size = N) (hd : ∀ d, o.dst = some d → d < N) {v : AV} (hp : pureA P o.op s.ev = some v)
    (hK : K (s.put o.dst v ((srcOf o.op).bind s.cl))) : o.wp P a w (Later P N κ0 S0 F w0 K) (LaterQ P N κ0 S0 F w0 Q) := by
  obtain ⟨v', hrun, hv⟩ := pure_sound (P := P) (w := w) (κ := κ) (S := S) (ρv := a.eval) hp hr.ev (fun _ => rfl)
  refine wp_value hrun he0 (Ext.refl κ S w) hr hN hd hv ?_ hK
  intro k e hke
  obtain ⟨dst, op, type, pos, after, guard⟩ := o
  cases op <;> simp only [srcOf] at hke <;> try (simp at hke; done)
  all_goals
    rename_i x
    cases x <;> simp at hke
    rename_i t
    have hv' : v' = a.eval (.tmp t) := by
      simp only [execOp, Sem.run_pure] at hrun
      injection hrun with hrun; injection hrun with hrun; exact hrun.symm
    rw [hv']
    exact hr.cl t k e hke

theorem alloc_op (hr : FRel P κ S F w s a ρ) (he0 : Ext F κ0 S0 w0 κ S w) (hN : a.tmps.size = N) (hd : ∀ d, o.dst = some d → d < N) {t : TypeId} (hop : o.op = .alloc t) {z : List AV} (hz : zeroOf P t = some z)
    (hK : K (({ s with h := s.h.new (z.map fun v => { v }) } : ASt).put o.dst (.ptr s.h.blocks.length 0))) : o.wp P a w (Later P N κ0 S0 F w0 K) (LaterQ P N κ0 S0 F w0 Q) := by
  obtain ⟨i, zv, hi, hzv, hzz, hzo⟩ := zero_parts hz
  have hrun : (execOp a.eval o).run P w = .ok (.value (.pointer (some ⟨w.heap.size, 0, none⟩))) (w.alloc (.cells zv.cells t)) := by
    simp only [execOp, hop, Instr.alloc, Sem.run_bind, run_zero hi hzv, Result.andThen_ok, newVar, newRow, run_newObj, Sem.run_pure]
    rfl
  have hi1 := hr.inv.box (T := t) (zeroVRl (w := w) (κ := κ) (S := S) hzz) hzo
  have he : Ext F κ S w (κ ++ [w.heap.size]) S (w.alloc (.cells zv.cells t)) := Ext.alloc _ _ (fun _ _ h => h) (fun b o h => (hr.inv.sIn b o h).1) (fun b o h => (hr.inv.fIn b o h).1) (by simp)
  have hr1 := hr.step he hi1 (cl' := s.cl) (fun t c e h => ⟨h, rfl⟩)
  refine wp_value hrun he0 he hr1 hN hd (.ptr ?_) (by simp) hK
  rw [← hr.inv.len]
  simp

theorem box_op (hr : FRel P κ S F w s a ρ) (he0 : Ext F κ0 S0 w0 κ S w) (hN : a.tmps.size = N) (hd : ∀ d, o.dst = some d → d < N) {t : TypeId} {x : Operand} (hop : o.op = .box t x) (h1 : (s.ev x).cells.all AV.one = true)
    (hK : K (({ s with h := s.h.new ((s.ev x).cells.map fun v => { v }) } : ASt).put o.dst (.ptr s.h.blocks.length 0))) : o.wp P a w (Later P N κ0 S0 F w0 K) (LaterQ P N κ0 S0 F w0 Q) := by
  have hraw : s.ev x ≠ .raw := by intro e; rw [e] at h1; simp [AV.cells, AV.one] at h1
  have hv := hr.ev x
  have hrun : (execOp a.eval o).run P w = .ok (.value (.pointer (some ⟨w.heap.size, 0, none⟩))) (w.alloc (.cells (a.eval x).cells t)) := by
    simp only [execOp, hop, Instr.box, Sem.run_bind, newVar, newRow, run_newObj, Result.andThen_ok, Sem.run_pure]
    rfl
  have hi1 := hr.inv.box (T := t) (cs := (s.ev x).cells) (arr := (a.eval x).cells) ⟨hv.cells_size hraw, hv.cells_at hraw⟩ (by simpa using h1)
  have he : Ext F κ S w (κ ++ [w.heap.size]) S (w.alloc (.cells (a.eval x).cells t)) := Ext.alloc _ _ (fun _ _ h => h) (fun b o h => (hr.inv.sIn b o h).1) (fun b o h => (hr.inv.fIn b o h).1) (by simp)
  have hr1 := hr.step he hi1 (cl' := s.cl) (fun t c e h => ⟨h, rfl⟩)
  refine wp_value hrun he0 he hr1 hN hd (.ptr ?_) (by simp) hK
  rw [← hr.inv.len]
  simp

theorem load_op (hr : FRel P κ S F w s a ρ) (he0 : Ext F κ0 S0 w0 κ S w) (hN : a.tmps.size = N) (hd : ∀ d, o.dst = some d → d < N) {t : TypeId} {x : Operand} (hop : o.op = .load t x)
    (hK : aop P o s K Q) : o.wp P a w (Later P N κ0 S0 F w0 K) (LaterQ P N κ0 S0 F w0 Q) := by
  simp only [aop, hop] at hK
  have hv := hr.ev x
  have hrunv : ∀ {v' : Value}, (Instr.loadAt t (a.eval x)).run P w = .ok v' w → (execOp a.eval o).run P w = .ok (.value v') w := by
    intro v' h; simp [execOp, hop, h]
  split at hK
  · rename_i k off z hx hz ha
    split at hK
    · rename_i cs hrow
      obtain ⟨blk, hb, hle, rfl⟩ := AHeap.row_spec hrow
      rw [hx] at hv
      obtain ⟨b, arr, T, hval, hk, hheap, hsz, hcells, hload⟩ := box_cells (P := P) hr.inv hv hb hle
      have hrun := hrunv (v' := .agg (arr.extract off (off + z))) (by rw [hval]; simp [Instr.loadAt, Instr.sureAddr, loadVar, run_agg ha, run_size hz, hload])
      refine wp_value hrun he0 (Ext.refl κ S w) hr hN hd (.agg (by simp; omega) (fun c hc => ?_) (fun j c u hc hu => ?_)) (by simp) hK
      · obtain ⟨c0, hc0, rfl⟩ := List.mem_map.1 hc
        obtain ⟨j, hj⟩ := List.getElem?_of_mem hc0
        rw [List.getElem?_take] at hj
        split at hj
        · rw [List.getElem?_drop] at hj
          have hlt : off + j < arr.size := by rw [hsz]; exact (List.getElem?_eq_some_iff.1 hj).1
          exact (hcells _ _ arr[off + j] hj (by simp [hlt])).2.1
        · cases hj
      · rw [List.getElem?_map, List.getElem?_take] at hc
        rw [Array.getElem?_extract] at hu
        by_cases hj : j < z
        · rw [if_pos hj, List.getElem?_drop] at hc
          rw [if_pos (by omega)] at hu
          cases hcj : blk[off + j]? with
          | none => simp [hcj] at hc
          | some c0 =>
            simp [hcj] at hc
            subst hc
            exact (hcells _ c0 u hcj hu).1
        · rw [if_neg hj] at hc; simp at hc
    · exact hK.elim
  · rename_i k off z hx hz ha
    split at hK
    · rename_i c hget
      unfold AHeap.get at hget
      cases hb : s.h.blocks[k]? with
      | none => simp [hb] at hget
      | some blk =>
        simp [hb] at hget
        have hlt := (List.getElem?_eq_some_iff.1 hget).1
        rw [hx] at hv
        obtain ⟨b, arr, T, hval, hk, hheap, hsz, hcells, hload⟩ := box_cells (P := P) (n := 0) hr.inv hv hb (by omega)
        have hlt' : off < arr.size := by omega
        have hau : arr[off]? = some arr[off] := by simp [hlt']
        obtain ⟨g1, g2, g3⟩ := hcells off c _ hget hau
        have hrun := hrunv (v' := arr[off]) (by rw [hval]; simp [Instr.loadAt, Instr.sureAddr, loadVar, run_agg ha, World.cell?, hheap, hau])
        refine wp_value hrun he0 (Ext.refl κ S w) hr hN hd g1 (fun q e hq => ?_) hK
        cases ho : c.o with
        | none => simp [ho] at hq
        | some e' =>
          simp [ho] at hq
          obtain ⟨rfl, rfl⟩ := hq
          exact g3 e' ho
    · exact hK.elim
  · rename_i cs z hx hz ha
    split at hK
    · rename_i hle
      rw [hx] at hv
      generalize hav : a.eval x = av at hv
      cases hv with
      | vptr hS hrr =>
        rename_i b off
        have hload := run_loadCells_list (P := P) w ⟨b, off, none⟩ ((List.range z).map fun j => (w.at_ b (off + j)).getD undef) (fun j u hj => by
          rw [List.getElem?_map] at hj
          by_cases hjz : j < z
          · have hjc : j < cs.length := by omega
            obtain ⟨_, _, h3⟩ := hS j _ (List.getElem?_eq_getElem hjc)
            obtain ⟨u', hu'⟩ := Option.isSome_iff_exists.1 h3
            simp [hjz, hu'] at hj
            subst hj
            rw [add_at]; exact hu'
          · simp [hjz] at hj)
        simp only [List.length_map, List.length_range] at hload
        have hrun := hrunv (v' := .agg ((List.range z).map fun j => (w.at_ b (off + j)).getD undef).toArray) (by rw [hav]; simp [Instr.loadAt, Instr.sureAddr, loadVar, run_agg ha, run_size hz, hload])
        refine wp_value hrun he0 (Ext.refl κ S w) hr hN hd (.agg (by simp; omega) (fun c hc => ?_) (fun j c u hc hu => ?_)) (by simp) hK
        · obtain ⟨j, hj⟩ := List.getElem?_of_mem (List.mem_of_mem_take hc)
          exact (hS j c hj).2.1
        · rw [List.getElem?_take] at hc
          split at hc
          · rename_i hjz
            obtain ⟨_, _, h3⟩ := hS j c hc
            obtain ⟨u', hu'⟩ := Option.isSome_iff_exists.1 h3
            simp [hjz, hu'] at hu
            subst hu
            exact hrr j c u' hc hu'
          · cases hc
    · exact hK.elim
  · rename_i cs z hx hz ha
    split at hK
    · rename_i c rest
      rw [hx] at hv
      generalize hav : a.eval x = av at hv
      cases hv with
      | vptr hS hrr =>
        rename_i b off
        obtain ⟨_, _, h3⟩ := hS 0 c (by simp)
        obtain ⟨u', hu'⟩ := Option.isSome_iff_exists.1 h3
        have hcell : w.cell? ⟨b, off, none⟩ = some u' := hu'
        have hrun := hrunv (v' := u') (by rw [hav]; simp [Instr.loadAt, Instr.sureAddr, loadVar, run_agg ha, hcell])
        exact wp_value hrun he0 (Ext.refl κ S w) hr hN hd (hrr 0 c u' (by simp) hu') (by simp) hK
    · exact hK.elim
  · exact hK.elim

end
end Go.AW
end

section
namespace Go.AW
section
variable {P : Program} {κ κ' κ0 : List Nat} {S S' S0 F : Nat → Nat → Prop} {w w' w0 : World} {s : ASt} {a : Act} {ρ ρ' : Cls → Option (Value × TypeId)} {h : AHeap}
  {o : Oper} {K : ASt → Prop} {Q : AExit → ASt → Prop} {N : Nat}

/-- Who holds which right behind a store. -/
def storeR (k off z : Nat) (cy : Option (Cls × TypeId)) (ρ : Cls → Option (Value × TypeId)) : Cls → Option (Value × TypeId)
  | .cell k' j => if k' = k ∧ off ≤ j ∧ j < off + z then (if j = off then (match cy with | some (.tmp n, _) => ρ (.tmp n) | _ => none) else none) else ρ (.cell k' j)
  | .tmp m => match cy with
    | some (.tmp n, _) => if m = n then none else ρ (.tmp m)
    | _ => ρ (.tmp m)

theorem storeR_from {k off z : Nat} {cy : Option (Cls × TypeId)} {q : Cls} {v : Value} {e : TypeId} (h : storeR k off z cy ρ q = some (v, e)) :
    (ρ q = some (v, e) ∧ ∀ n e', cy = some (.tmp n, e') → q ≠ .tmp n) ∨ (q = .cell k off ∧ ∃ n e', cy = some (.tmp n, e') ∧ ρ (.tmp n) = some (v, e)) := by
  cases q with
  | cell k' j =>
    simp only [storeR] at h
    split at h
    · rename_i hc
      split at h
      · rename_i hj
        split at h
        · rename_i n e'
          exact .inr ⟨by rw [hc.1, hj], n, e', rfl, h⟩
        · cases h
      · cases h
    · exact .inl ⟨h, fun n e' _ hh => by cases hh⟩
  | tmp m =>
    simp only [storeR] at h
    split at h
    · rename_i n e'
      split at h
      · cases h
      · rename_i hne
        refine .inl ⟨h, fun n' e'' hh hq => ?_⟩
        injection hh with hh; injection hh with hh _; injection hh with hh
        injection hq with hq
        exact hne (hq.trans hh.symm)
    · rename_i hno
      exact .inl ⟨h, fun n e' hh => absurd hh (hno n e')⟩

theorem store_op (hr : FRel P κ S F w s a ρ) (he0 : Ext F κ0 S0 w0 κ S w) (hN : a.tmps.size = N) (hd : ∀ d, o.dst = some d → d < N) {t : TypeId} {x y : Operand} (hop : o.op = .store t x y)
    (hK : aop P o s K Q) : o.wp P a w (Later P N κ0 S0 F w0 K) (LaterQ P N κ0 S0 F w0 Q) := by
  simp only [aop, hop] at hK
  split at hK
  · rename_i k off z hx hz
    obtain ⟨hlen, hone, hrow, hK⟩ := hK
    obtain ⟨cs0, hrow⟩ := Option.isSome_iff_exists.1 hrow
    obtain ⟨blk, hb, hle, _⟩ := AHeap.row_spec hrow
    have hv := hr.ev x
    rw [hx] at hv
    obtain ⟨b, arr, T, hval, hk, hheap, hsz, hcells, _⟩ := box_cells (P := P) (n := 0) hr.inv hv hb (by omega)
    have hvy := hr.ev y
    have hraw : s.ev y ≠ .raw := by intro e; rw [e] at hone; simp [AV.cells, AV.one] at hone
    have hys := hvy.cells_size hraw
    have hyc := hvy.cells_at hraw
    have hone' : ∀ c ∈ (s.ev y).cells, c.one = true := by simpa using hone
    have hval1 : ∀ u ∈ (a.eval y).cells.toList, u.oneCell' = true := by
      intro u hu
      obtain ⟨j, hj⟩ := List.getElem?_of_mem hu
      rw [Array.getElem?_toList] at hj
      have hjl : j < (s.ev y).cells.length := by rw [← hys]; exact (Array.getElem?_eq_some_iff.1 hj).1
      exact (hyc j _ u (List.getElem?_eq_getElem hjl) hj).one (hone' _ (List.getElem_mem hjl))
    have hst := run_storeCells_at (P := P) b off T (a.eval y).cells.toList 0 arr w hheap (by simp; omega) hval1
    simp only [Nat.add_zero] at hst
    have hrun : (execOp a.eval o).run P w = .ok .skip (w.setRow b (arr.toList.take off ++ (a.eval y).cells.toList ++ arr.toList.drop (off + (a.eval y).cells.toList.length)).toArray) := by
      simp only [execOp, hop, Instr.storeAt, Instr.sureAddr, hval, Sem.run_bind, Sem.run_pure, Result.andThen_ok, storeVar, run_size hz]
      have hne : ¬ (a.eval y).cells.size ≠ z := by rw [hys, hlen]; simp
      rw [if_neg hne, hst]
      rfl
    -- the cells that are written
    have hcl : (cellsOf (s.ev y) (s.evc y)).length = z := by
      unfold cellsOf
      split
      · rename_i cs hcs; rw [hcs] at hlen; simpa [AV.cells] using hlen
      · rename_i hno
        have : (s.ev y).cells = [s.ev y] := by
          unfold AV.cells
          split
          · rename_i cs hcs; exact absurd hcs (hno cs)
          · rfl
        rw [this] at hlen; simpa using hlen
    have hcv : ∀ (j : Nat) (c : Cell), (cellsOf (s.ev y) (s.evc y))[j]? = some c → (s.ev y).cells[j]? = some c.v ∧ ∀ e, c.o = some e → j = 0 ∧ ∃ n, s.evc y = some (.tmp n, e) ∧ c.v = s.ev y ∧ (s.ev y).cells = [s.ev y] := by
      intro j c hc
      unfold cellsOf at hc
      split at hc
      · rename_i cs hcs
        rw [List.getElem?_map] at hc
        cases hj : cs[j]? with
        | none => simp [hj] at hc
        | some c0 => simp [hj] at hc; subst hc; rw [hcs]; exact ⟨by simpa [AV.cells] using hj, by simp⟩
      · rename_i hno
        have hcc : (s.ev y).cells = [s.ev y] := by
          unfold AV.cells
          split
          · rename_i cs hcs; exact absurd hcs (hno cs)
          · rfl
        have hj : j = 0 := by have := (List.getElem?_eq_some_iff.1 hc).1; simp at this; exact this
        subst hj
        simp at hc
        subst hc
        refine ⟨by rw [hcc]; rfl, fun e he => ⟨rfl, ?_⟩⟩
        simp only at he
        split at he
        · rename_i n e' hn
          injection he with he
          subst he
          exact ⟨n, hn, rfl, hcc⟩
        · cases he
    have hst2 := hr.inv.store (ρ' := storeR k off z (s.evc y) ρ) (cs := cellsOf (s.ev y) (s.evc y)) (vals := (a.eval y).cells.toList) hk hb (by rw [hcl]; exact hle) hheap (by rw [hcl]; simp; omega)
      (fun j c v hc hv => by
        rw [Array.getElem?_toList] at hv
        obtain ⟨g1, g2⟩ := hcv j c hc
        refine ⟨hyc j c.v v g1 hv, hone' _ (List.mem_of_getElem? g1), fun e he => ?_⟩
        obtain ⟨rfl, n, hn, hcvy, hcc⟩ := g2 e he
        have hz0 : 0 < z := by rw [hcc] at hlen; simp at hlen; omega
        simp only [storeR, Nat.add_zero]
        rw [if_pos (by simp; omega), hn]
        simp only [if_true]
        have hvy' : v = a.eval y := by
          have : (a.eval y).cells = #[a.eval y] := by
            unfold Value.cells
            split
            · rename_i cs hcs
              rw [hcs] at hvy
              generalize s.ev y = yy at *
              cases hvy with
              | agg _ _ _ => 
                rename_i cs' _ _ _
                simp [AV.cells] at hcc
                have hm : AV.agg cs' ∈ cs' := List.mem_of_getElem? (i := 0) (congrArg (fun l => l[0]?) hcc)
                have := hone' (.agg cs') (by simpa [AV.cells] using hm)
                simp [AV.one] at this
              | raw => exact absurd rfl hraw
            · rfl
          rw [this] at hv
          simp at hv
          exact hv.symm
        subst hvy'
        cases hyo : y with
        | tmp ty =>
          subst hyo
          exact hr.cl ty _ _ hn
        | _ => subst hyo; simp [ASt.evc] at hn)
      (fun k' j' hno => by
        simp only [storeR]
        rw [hcl] at hno
        rw [if_neg hno])
      (fun q v e hq => by
        rcases storeR_from hq with ⟨h1, _⟩ | ⟨_, n, e', _, h1⟩
        · exact ⟨q, h1⟩
        · exact ⟨.tmp n, h1⟩)
      (fun q q' v v' e e' hne hq hq' => by
        rcases storeR_from hq with ⟨h1, h1'⟩ | ⟨rfl, n, e1, hn, h1⟩ <;> rcases storeR_from hq' with ⟨h2, h2'⟩ | ⟨rfl, n', e2, hn', h2⟩
        · exact hr.inv.dis q q' v v' e e' hne h1 h2
        · exact hr.inv.dis q (.tmp n') v v' e e' (h1' n' e2 hn') h1 h2
        · exact hr.inv.dis (.tmp n) q' v v' e e' (fun hh => h2' n e1 hn hh.symm) h1 h2
        · exact absurd rfl hne)
    obtain ⟨he, hi⟩ := hst2
    have hr1 := hr.step he hi (cl' := fun t => killTmp (s.evc y) (killRow k off z (s.cl t))) (fun t c e hc => by
      obtain ⟨h1, h2⟩ := killTmp_some hc
      obtain ⟨h3, h4⟩ := killRow_some h1
      refine ⟨h3, ?_⟩
      cases c with
      | tmp m =>
        simp only [storeR]
        split
        · rename_i n e' hn
          rw [if_neg (fun hm => h2 n e' hn (by rw [hm]))]
        · rfl
      | cell k' j =>
        simp only [storeR]
        rw [if_neg (fun hh => h4 j (by rw [hh.1]) ⟨hh.2.1, hh.2.2⟩)])
    exact wp_skip' hrun he0 he hr1 hN hd hK
  · exact hK.elim

end
end Go.AW
end

section
namespace Go.AW
section
variable {P : Program} {κ κ' κ0 : List Nat} {S S' S0 F : Nat → Nat → Prop} {w w' w0 : World} {s : ASt} {a : Act} {ρ ρ' : Cls → Option (Value × TypeId)} {h h' : AHeap}
  {o : Oper} {K : ASt → Prop} {Q : AExit → ASt → Prop} {N : Nat}

/-- The spare places behind what temporaries own: a callee keeps off them. -/
def SpareT (P : Program) (ρ : Cls → Option (Value × TypeId)) (b o : Nat) : Prop :=
  ∃ n v e nn cap i, ρ (.tmp n) = some (v, e) ∧ v = .slice (some ⟨b, 0, none⟩) nn cap ∧ P.info? e = some i ∧ nn * i.size ≤ o

def cellsOnly (ρ : Cls → Option (Value × TypeId)) : Cls → Option (Value × TypeId)
  | .cell k j => ρ (.cell k j)
  | .tmp _ => none

theorem SpareT.of_owned {n : Nat} {v : Value} {e : TypeId} (hn : ρ (.tmp n) = some (v, e)) (ho : Owned P κ S F w v e) {g : Nat} (hg : v.ownBlock = some g) : ∃ m, ∀ o, m ≤ o → SpareT P ρ g o := by
  rcases ho with rfl | ⟨g', nn, cap, cur, i, rfl, h1, _⟩
  · simp [Value.ownBlock] at hg
  · simp [Value.ownBlock] at hg
    subst hg
    exact ⟨nn * i.size, fun o ho => ⟨n, _, e, nn, cap, i, hn, rfl, h1, ho⟩⟩

/-- What a callee may lean on. -/
theorem Inv.callee (hi : Inv P κ S F w h ρ) : Inv P κ S (fun b o => F b o ∨ SpareT P ρ b o) w h (cellsOnly ρ) := by
  refine ⟨hi.len, hi.nd, fun k b cs hk hb => ?_, hi.sIn, fun b o hf => ?_, fun b o o' hf ho => ?_, fun c v e hc => ?_, fun c c' v v' e e' hne hc hc' => ?_⟩
  · obtain ⟨arr, T, g1, g2, g3⟩ := hi.blk k b cs hk hb
    exact ⟨arr, T, g1, g2, g3⟩
  · rcases hf with hf | ⟨n, v, e, nn, cap, i, hn, rfl, hin, hle⟩
    · exact hi.fIn b o hf
    · rcases hi.own _ _ _ hn with hh | ⟨g', nn', cap', cur, i', hh, h1, h2, h3, h4, h5, h6, h7⟩
      · cases hh
      · injection hh with hh1 hh2 hh3
        injection hh1 with hh1
        injection hh1 with hh1
        subst hh1 hh2 hh3
        rw [hin] at h1; injection h1 with h1; subst h1
        exact ⟨(Array.getElem?_eq_some_iff.1 h2).1, h6, (h7 o hle).1⟩
  · rcases hf with hf | ⟨n, v, e, nn, cap, i, hn, hv, hin, hle⟩
    · exact .inl (hi.fUp b o o' hf ho)
    · exact .inr ⟨n, v, e, nn, cap, i, hn, hv, hin, Nat.le_trans hle ho⟩
  · cases c with
    | tmp n => simp [cellsOnly] at hc
    | cell k j =>
      simp only [cellsOnly] at hc
      have ho := hi.own _ _ _ hc
      refine ho.mono fun g cur hvg hg hgk => ⟨hg, hgk, fun o h1 h2 => ⟨h1, ?_⟩⟩
      rintro (hf | ⟨n, v2, e2, nn, cap, i, hn, rfl, hin, hle⟩)
      · exact h2 hf
      · rcases hi.dis (.cell k j) (.tmp n) v _ e e2 (by simp) hc hn with hd | hd
        · rw [hvg] at hd; cases hd
        · exact hd (by rw [hvg]; rfl)
  · cases c with
    | tmp n => simp [cellsOnly] at hc
    | cell k j =>
      cases c' with
      | tmp n => simp [cellsOnly] at hc'
      | cell k' j' => exact hi.dis _ _ v v' e e' hne hc hc'

/-- Rights behind a call: the boxes' are the callee's word, the temporaries' are kept; the result's is named for its temporary. -/
def afterCall (d : Nat) (res : Option (Value × TypeId)) (ρ ρ' : Cls → Option (Value × TypeId)) : Cls → Option (Value × TypeId)
  | .cell k j => ρ' (.cell k j)
  | .tmp n => if n = d then res else ρ (.tmp n)

theorem Inv.back {F' : Nat → Nat → Prop} (hi : Inv P κ S F w h ρ) (he : Ext F' κ S w κ' S' w') (hi' : Inv P κ' S' (fun b o => F b o ∨ SpareT P ρ b o) w' h' ρ') (d : Nat) {res : Option (Value × TypeId)} (hres : ∀ v e, res = some (v, e) → ρ' (.tmp 0) = some (v, e)) :
    Inv P κ' S' F w' h' (afterCall d res ρ ρ') := by
  have old : ∀ n v e, ρ (.tmp n) = some (v, e) → Owned P κ' S' F w' v e := by
    intro n v e hn
    rcases hi.own _ _ _ hn with rfl | ⟨g, nn, cap, cur, i, rfl, h1, h2, h3, h4, h5, h6, h7⟩
    · exact .inl rfl
    · obtain ⟨arr', g1, g2⟩ := he.grow g cur e (0, 0) h2
      have hlt := (Array.getElem?_eq_some_iff.1 h2).1
      refine .inr ⟨g, nn, cap, arr', i, rfl, h1, g1, h3, h4, by rw [g2, h5], ?_, fun o ho => ⟨?_, (h7 o ho).2⟩⟩
      · obtain ⟨ks, rfl, hks⟩ := he.pre
        intro hm
        rcases List.mem_append.1 hm with hm | hm
        · exact h6 hm
        · have := hks g hm; omega
      · exact (hi'.fIn g o (.inr ⟨n, _, e, nn, cap, i, hn, rfl, h1, ho⟩)).2.2
  have apart : ∀ n v e c' v' e', ρ (.tmp n) = some (v, e) → ρ' c' = some (v', e') → v.ownBlock = none ∨ v.ownBlock ≠ v'.ownBlock := by
    intro n v e c' v' e' hn hc'
    cases hvb : v.ownBlock with
    | none => exact .inl rfl
    | some g =>
      right
      intro hh
      obtain ⟨m, hm⟩ := SpareT.of_owned hn (hi.own _ _ _ hn) hvb
      obtain ⟨_, _, m', hm'⟩ := (hi'.own _ _ _ hc').lt hh.symm
      exact (hm' (max m m') (by omega)).2 (.inr (hm _ (by omega)))
  have sym : ∀ {v v' : Value}, (v.ownBlock = none ∨ v.ownBlock ≠ v'.ownBlock) → (v'.ownBlock = none ∨ v'.ownBlock ≠ v.ownBlock) := by
    intro v v' hh
    rcases hh with hh | hh
    · by_cases hv' : v'.ownBlock = none
      · exact .inl hv'
      · exact .inr (by rw [hh]; exact hv')
    · exact .inr (fun e => hh e.symm)
  refine ⟨hi'.len, hi'.nd, fun k b cs hk hb => ?_, hi'.sIn, fun b o hf => hi'.fIn b o (.inl hf), hi.fUp, fun c v e hc => ?_, fun c c' v v' e e' hne hc hc' => ?_⟩
  · obtain ⟨arr, T, g1, g2, g3⟩ := hi'.blk k b cs hk hb
    exact ⟨arr, T, g1, g2, g3⟩
  · cases c with
    | cell k j =>
      simp only [afterCall] at hc
      exact (hi'.own _ _ _ hc).mono fun g cur _ hg hgk => ⟨hg, hgk, fun o h1 h2 => ⟨h1, fun hf => h2 (.inl hf)⟩⟩
    | tmp n =>
      simp only [afterCall] at hc
      split at hc
      · exact (hi'.own _ _ _ (hres v e hc)).mono fun g cur _ hg hgk => ⟨hg, hgk, fun o h1 h2 => ⟨h1, fun hf => h2 (.inl hf)⟩⟩
      · exact old n v e hc
  · cases c with
    | cell k j =>
      simp only [afterCall] at hc
      cases c' with
      | cell k' j' => exact hi'.dis _ _ v v' e e' hne hc hc'
      | tmp n' =>
        simp only [afterCall] at hc'
        split at hc'
        · exact hi'.dis _ _ v v' e e' (by simp) hc (hres v' e' hc')
        · exact sym (apart n' v' e' _ v e hc' hc)
    | tmp n =>
      simp only [afterCall] at hc
      split at hc
      · rename_i hnd
        cases c' with
        | cell k' j' => exact hi'.dis _ _ v v' e e' (by simp) (hres v e hc) hc'
        | tmp n' =>
          simp only [afterCall] at hc'
          split at hc'
          · rename_i hnd'; exact absurd (by rw [hnd, hnd']) hne
          · exact sym (apart n' v' e' _ v e hc' (hres v e hc))
      · cases c' with
        | cell k' j' => exact apart n v e _ v' e' hc hc'
        | tmp n' =>
          simp only [afterCall] at hc'
          split at hc'
          · exact apart n v e _ v' e' hc (hres v' e' hc')
          · exact hi.dis _ _ v v' e e' hne hc hc'

theorem body_parts {f : FuncId} (h : hasBody P f = true) : ∃ fn, P.funcs[f]? = some fn ∧ fn.body.isSome = true ∧ (fn.name == "runtime.NumGoroutine") = false := by
  unfold hasBody at h
  split at h
  · rename_i fn hf
    simp only [Bool.and_eq_true, bne, Bool.not_eq_true'] at h
    exact ⟨fn, hf, h.1, h.2⟩
  · cases h

theorem run_enter {f : FuncId} (h : hasBody P f = true) (args : Array Value) : (callFunc f args).run P w = .ok (.enter f args) w := by
  obtain ⟨fn, h1, h2, h3⟩ := body_parts h
  have h4 : fn.body ≠ none := by cases hb : fn.body <;> simp [hb] at h2 ⊢
  have h5 : fn.name ≠ "runtime.NumGoroutine" := by simpa using h3
  simp [callFunc, h1, h4, h5]

theorem call_op (hr : FRel P κ S F w s a ρ) (he0 : Ext F κ0 S0 w0 κ S w) (hN : a.tmps.size = N) (hd : ∀ d, o.dst = some d → d < N) {c : Call} {f : Operand} (hop : o.op = .call c) (hcal : c.callee = .value f)
    (hK : callA0 P o.dst (s.ev f) (c.args.toList.map s.ev) s K Q) : o.wp P a w (Later P N κ0 S0 F w0 K) (LaterQ P N κ0 S0 F w0 Q) := by
  unfold callA0 at hK
  split at hK
  · rename_i g fst cap hf
    obtain ⟨hbody, hcall⟩ := hK
    have hvf := hr.ev f
    rw [hf] at hvf
    generalize hfv : a.eval f = fv at hvf
    cases hvf with
    | func hs1 hs2 hv1 hv2 =>
      rename_i fst' cap'
      have hargs : VRs κ S w (fst ++ c.args.toList.map s.ev ++ cap) (fst' ++ c.args.map a.eval ++ cap').toList := by
        refine ⟨by simp [hs1, hs2], fun j x v hx hv => ?_⟩
        simp only [Array.toList_append, Array.toList_map] at hv
        rw [List.append_assoc, List.getElem?_append] at hx hv
        simp only [Array.length_toList, hs1] at hv
        by_cases hj : j < fst.length
        · rw [if_pos hj] at hx hv
          exact hv1 j x v hx (by simpa using hv)
        · rw [if_neg hj, List.getElem?_append] at hx hv
          simp only [List.length_map] at hx hv
          by_cases hj2 : j - fst.length < c.args.toList.length
          · rw [if_pos hj2] at hx hv
            rw [List.getElem?_map] at hx hv
            cases hc : c.args.toList[j - fst.length]? with
            | none => simp [hc] at hx
            | some y => simp [hc] at hx hv; subst hx hv; exact hr.ev y
          · rw [if_neg hj2] at hx hv
            exact hv2 _ x v hx (by simpa using hv)
      have hc := hcall κ S _ w (cellsOnly ρ) _ hr.inv.callee hargs
      unfold Oper.wp
      have hrun : (execOp a.eval o).run P w = .ok (.enter g (fst' ++ c.args.map a.eval ++ cap')) w := by
        obtain ⟨callee, args, argTypes⟩ := c
        simp only at hcal
        subst hcal
        simp only [execOp, hop, resolve, hfv, Deferred.ofValue, Sem.run_bind, Sem.run_pure, Result.andThen_ok, invoke]
        exact run_enter hbody _
      rw [hrun, Oper.upon_enter]
      simp only [Array.toArray_toList] at hc
      refine hc.mono fun e w1 hpost => ?_
      obtain ⟨κ1, S1, h1, ρ1, ae, he', hi1, hend, hR⟩ := hpost
      have he : Ext F κ S w κ1 S1 w1 := he'.less fun _ _ h => .inl h
      cases ae with
      | ret v oo =>
        cases e with
        | returned val =>
          obtain ⟨hvv, hoo⟩ := hend
          have hib := hr.inv.back he hi1 (o.dst.getD 0) (res := oo.map fun e => (val, e)) (fun v' e' hh => by
            cases oo with
            | none => simp at hh
            | some e1 => simp at hh; obtain ⟨rfl, rfl⟩ := hh; exact hoo _ rfl)
          have hr1 := hr.step he hib (cl' := fun t => killf (.tmp (o.dst.getD 0)) (killc (s.cl t))) (fun t c e hc => by
            obtain ⟨g1, g2⟩ := killf_some hc
            obtain ⟨g3, n, g4⟩ := killc_some g1
            subst g4
            refine ⟨g3, ?_⟩
            simp only [afterCall]
            rw [if_neg (fun hh => g2 (by rw [hh]))])
          refine ⟨κ1, S1, _, _, he0.trans he, hr1.put hvv (fun d h => by rw [hN]; exact hd d h) (fun k e hk => ?_), (put_size a _ _).trans hN, hR⟩
          cases oo with
          | none => simp at hk
          | some e1 => simp at hk; obtain ⟨rfl, rfl⟩ := hk; simp [afterCall]
        | panicked chain => exact hend.elim
        | outgrown => exact hend.elim
      | panic v =>
        cases e with
        | returned val => exact hend.elim
        | outgrown => exact hend.elim
        | panicked chain =>
          have hib := hr.inv.back he hi1 0 (res := none) (fun v' e' hh => by cases hh)
          have hr1 := hr.step he hib (cl' := fun t => none) (fun t c e hc => by cases hc)
          match chain, hend with
          | [{ v := val, recovered := false, goexit := false }], hend =>
            exact ⟨κ1, S1, _, _, v, val, he0.trans he, hr1.bare, hend, rfl, hR⟩
  · exact hK.elim

end
end Go.AW
end

section
namespace Go.AW
section
variable {P : Program} {κ κ' κ0 : List Nat} {S S' S0 F : Nat → Nat → Prop} {w w' w0 : World} {s s' : ASt} {a : Act} {ρ ρ' : Cls → Option (Value × TypeId)} {h h' : AHeap}

theorem LE.one {x y : AV} (h : LE x y) : x.one = y.one := by cases h <;> rfl

theorem VR.le {x y : AV} {v : Value} (hxy : LE x y) : VR κ S w x v → VR κ S w y v := by
  induction hxy generalizing v with
  | refl x => exact id
  | nil => intro h; cases h; exact .slice0
  | agg hl hx ih =>
    rename_i as bs
    intro h
    cases h with
    | agg h1 h2 h3 =>
      refine .agg (h1.trans hl) (fun c hc => ?_) (fun j c v hc hv => ?_)
      · obtain ⟨j, hj⟩ := List.getElem?_of_mem hc
        have hlt : j < as.length := by rw [hl]; exact (List.getElem?_eq_some_iff.1 hj).1
        rw [← (hx j as[j] c (by simp [hlt]) hj).one]
        exact h2 _ (List.getElem_mem hlt)
      · have hlt : j < as.length := by rw [hl]; exact (List.getElem?_eq_some_iff.1 hc).1
        exact ih j as[j] c (by simp [hlt]) hc (h3 j as[j] v (by simp [hlt]) hv)
  | tup hl hx ih =>
    rename_i as bs
    intro h
    cases h with
    | tup h1 h3 =>
      refine .tup (h1.trans hl) (fun j c v hc hv => ?_)
      have hlt : j < as.length := by rw [hl]; exact (List.getElem?_eq_some_iff.1 hc).1
      exact ih j as[j] c (by simp [hlt]) hc (h3 j as[j] v (by simp [hlt]) hv)

/-- Fewer boxes are told of. -/
theorem VR.shrink {x : AV} {v : Value} {n : Nat} (h : VR κ S w x v) : Bel n x → VR (κ.take n) S w x v := by
  induction h with
  | bool b => intro _; exact .bool b
  | int k n => intro _; exact .int k n
  | str l => intro _; exact .str l
  | nilptr => intro _; exact .nilptr
  | ptr hk => intro hb; cases hb with | ptr hb => exact .ptr (by rw [List.getElem?_take, if_pos hb]; exact hk)
  | vptr hS _ ih =>
    intro hb; cases hb with
    | vptr hb => exact .vptr hS (fun j c v hc hv => ih j c v hc hv (hb c (List.mem_of_getElem? hc)))
  | nils => intro _; exact .nils
  | slice0 => intro _; exact .slice0
  | slice h1 h2 h3 hS _ ih =>
    intro hb; cases hb with
    | slice hb => exact .slice h1 h2 h3 hS (fun j c v hc hv => ih j c v hc hv (hb c (List.mem_of_getElem? hc)))
  | func h1 h2 _ _ ih1 ih2 =>
    intro hb; cases hb with
    | func hb1 hb2 => exact .func h1 h2 (fun j c v hc hv => ih1 j c v hc hv (hb1 c (List.mem_of_getElem? hc))) (fun j c v hc hv => ih2 j c v hc hv (hb2 c (List.mem_of_getElem? hc)))
  | nilFunc => intro _; exact .nilFunc
  | iface _ ih => intro hb; cases hb with | iface hb => exact .iface (ih hb)
  | nilIface => intro _; exact .nilIface
  | agg h1 h2 _ ih => intro hb; cases hb with | agg hb => exact .agg h1 h2 (fun j c v hc hv => ih j c v hc hv (hb c (List.mem_of_getElem? hc)))
  | tup h1 _ ih => intro hb; cases hb with | tup hb => exact .tup h1 (fun j c v hc hv => ih j c v hc hv (hb c (List.mem_of_getElem? hc)))
  | raw => intro _; exact .raw

/-- What stands for a value leads into boxes that are there. -/
theorem VR.bel {x : AV} {v : Value} (h : VR κ S w x v) : Bel κ.length x := by
  induction h with
  | bool b => exact .bool b
  | int k n => exact .int k n
  | str l => exact .str l
  | nilptr => exact .nilptr
  | ptr hk => exact .ptr (List.getElem?_eq_some_iff.1 hk).1
  | vptr hS _ ih =>
    refine .vptr fun c hc => ?_
    obtain ⟨j, hj⟩ := List.getElem?_of_mem hc
    obtain ⟨u, hu⟩ := Option.isSome_iff_exists.1 (hS j c hj).2.2
    exact ih j c u hj hu
  | nils => exact .nils
  | slice0 => exact .slice (by simp)
  | slice h1 h2 h3 hS _ ih =>
    refine .slice fun c hc => ?_
    obtain ⟨j, hj⟩ := List.getElem?_of_mem hc
    obtain ⟨u, hu⟩ := Option.isSome_iff_exists.1 (hS j c hj).2.2
    exact ih j c u hj hu
  | func h1 h2 _ _ ih1 ih2 =>
    refine .func (fun c hc => ?_) (fun c hc => ?_)
    · obtain ⟨j, hj⟩ := List.getElem?_of_mem hc
      rename_i fst' cap' _ _
      have hlt : j < fst'.size := by rw [h1]; exact (List.getElem?_eq_some_iff.1 hj).1
      exact ih1 j c fst'[j] hj (by simp [hlt])
    · obtain ⟨j, hj⟩ := List.getElem?_of_mem hc
      rename_i fst' cap' _ _
      have hlt : j < cap'.size := by rw [h2]; exact (List.getElem?_eq_some_iff.1 hj).1
      exact ih2 j c cap'[j] hj (by simp [hlt])
  | nilFunc => exact .nilFunc
  | iface _ ih => exact .iface ih
  | nilIface => exact .nilIface
  | agg h1 h2 _ ih =>
    refine .agg fun c hc => ?_
    obtain ⟨j, hj⟩ := List.getElem?_of_mem hc
    rename_i arr _
    have hlt : j < arr.size := by rw [h1]; exact (List.getElem?_eq_some_iff.1 hj).1
    exact ih j c arr[j] hj (by simp [hlt])
  | tup h1 _ ih =>
    refine .tup fun c hc => ?_
    obtain ⟨j, hj⟩ := List.getElem?_of_mem hc
    rename_i arr _
    have hlt : j < arr.size := by rw [h1]; exact (List.getElem?_eq_some_iff.1 hj).1
    exact ih j c arr[j] hj (by simp [hlt])
  | raw => exact .raw

theorem Inv.closed (hi : Inv P κ S F w h ρ) : Closed h := by
  intro k blk hb c hc
  obtain ⟨b, hk⟩ : ∃ b, κ[k]? = some b := by
    have hlt : k < κ.length := by rw [hi.len]; exact (List.getElem?_eq_some_iff.1 hb).1
    exact ⟨κ[k], List.getElem?_eq_getElem hlt⟩
  obtain ⟨arr, T, h1, h2, h3⟩ := hi.blk k b blk hk hb
  obtain ⟨j, hj⟩ := List.getElem?_of_mem hc
  have hlt : j < arr.size := by rw [h2]; exact (List.getElem?_eq_some_iff.1 hj).1
  have := (h3 j c arr[j] hj (by simp [hlt])).1.bel
  rwa [hi.len] at this

/-- The boxes from some number on are forgotten. -/
theorem Inv.forget (hi : Inv P κ S F w h ρ) {h' : AHeap} {L : List (List Cell)} (hh : h.blocks = h'.blocks ++ L) (hc : Closed h') : Inv P (κ.take h'.blocks.length) S F w h' ρ := by
  have hl : h'.blocks.length ≤ κ.length := by rw [hi.len, hh]; simp
  have sub : ∀ b, b ∈ κ.take h'.blocks.length → b ∈ κ := fun b hb => List.mem_of_mem_take hb
  refine ⟨by simp; omega, ?_, fun k b cs hk hb => ?_, fun b o hs => ⟨(hi.sIn b o hs).1, fun hm => (hi.sIn b o hs).2 (sub b hm)⟩, fun b o hf => ?_, hi.fUp, fun c v e hc => ?_, hi.dis⟩
  · exact hi.nd.sublist (List.take_sublist _ _)
  · have hlt := (List.getElem?_eq_some_iff.1 hb).1
    rw [List.getElem?_take, if_pos hlt] at hk
    have hb' : h.blocks[k]? = some cs := by rw [hh, List.getElem?_append_left hlt]; exact hb
    obtain ⟨arr, T, g1, g2, g3⟩ := hi.blk k b cs hk hb'
    refine ⟨arr, T, g1, g2, fun j c v hc' hv => ?_⟩
    obtain ⟨f1, f2, f3⟩ := g3 j c v hc' hv
    exact ⟨f1.shrink (hc k cs hb c (List.mem_of_getElem? hc')), f2, f3⟩
  · obtain ⟨g1, g2, g3⟩ := hi.fIn b o hf
    exact ⟨g1, fun hm => g2 (sub b hm), g3⟩
  · exact (hi.own c v e hc).mono fun g cur _ hg hgk => ⟨hg, fun hm => hgk (sub g hm), fun o h1 h2 => ⟨h1, h2⟩⟩

theorem Ext.forget (he : Ext F κ0 S0 w0 κ S w) {n : Nat} (hn : κ0.length ≤ n) : Ext F κ0 S0 w0 (κ.take n) S w := by
  obtain ⟨ks, rfl, hks⟩ := he.pre
  refine ⟨⟨ks.take (n - κ0.length), ?_, fun b hb => hks b (List.mem_of_mem_take hb)⟩, he.sub, he.keep, he.keepF, he.grow, he.size, he.still⟩
  rw [List.take_append, List.take_of_length_le hn]


/-- Rights granted: a nil slice owns its row. -/
def granted (G : Cls → Option TypeId) (ρ : Cls → Option (Value × TypeId)) : Cls → Option (Value × TypeId) := fun c => match G c with
  | some e => some (.slice none 0 0, e)
  | none => ρ c

theorem Inv.relax (hi : Inv P κ S F w h ρ) (G : Cls → Option TypeId) (hl : h'.blocks.length ≤ h.blocks.length) (hlen : ∀ (k : Nat) (blk blk' : List Cell), h.blocks[k]? = some blk → h'.blocks[k]? = some blk' → blk.length = blk'.length)
    (hcell : ∀ (k j : Nat) (blk blk' : List Cell) (c c' : Cell), h.blocks[k]? = some blk → h'.blocks[k]? = some blk' → blk[j]? = some c → blk'[j]? = some c' →
      LE c.v c'.v ∧ ∀ e, c'.o = some e → (G (.cell k j) = none ∧ c.o = some e) ∨ (G (.cell k j) = some e ∧ c.v = .nils)) (hc : Closed h') :
    Inv P (κ.take h'.blocks.length) S F w h' (granted G ρ) := by
  have hlκ : h'.blocks.length ≤ κ.length := by rw [hi.len]; exact hl
  have sub : ∀ b, b ∈ κ.take h'.blocks.length → b ∈ κ := fun b hb => List.mem_of_mem_take hb
  refine ⟨by simp; omega, hi.nd.sublist (List.take_sublist _ _), fun k b cs hk hb => ?_, fun b o hs => ⟨(hi.sIn b o hs).1, fun hm => (hi.sIn b o hs).2 (sub b hm)⟩, fun b o hf => ?_, hi.fUp, fun c v e hc => ?_, fun c c' v v' e e' hne h1 h2 => ?_⟩
  · have hlt := (List.getElem?_eq_some_iff.1 hb).1
    rw [List.getElem?_take, if_pos hlt] at hk
    have hb' : h.blocks[k]? = some h.blocks[k] := List.getElem?_eq_getElem (by omega)
    obtain ⟨arr, T, g1, g2, g3⟩ := hi.blk k b _ hk hb'
    have hll := hlen k _ _ hb' hb
    refine ⟨arr, T, g1, by rw [g2, hll], fun j c' v hc' hv => ?_⟩
    have hj : j < h.blocks[k].length := by rw [hll]; exact (List.getElem?_eq_some_iff.1 hc').1
    obtain ⟨c, hcj⟩ : ∃ c, h.blocks[k][j]? = some c := ⟨_, List.getElem?_eq_getElem hj⟩
    obtain ⟨f1, f2, f3⟩ := g3 j c v hcj hv
    obtain ⟨q1, q2⟩ := hcell k j _ _ c c' hb' hb hcj hc'
    refine ⟨(VR.le q1 f1).shrink (hc k cs hb c' (List.mem_of_getElem? hc')), by rw [← q1.one]; exact f2, fun e he => ?_⟩
    rcases q2 e he with ⟨r1, r2⟩ | ⟨r1, r2⟩
    · simp only [granted, r1]; exact f3 e r2
    · simp only [granted, r1]
      rw [r2] at f1
      cases f1
      rfl
  · obtain ⟨g1, g2, g3⟩ := hi.fIn b o hf
    exact ⟨g1, fun hm => g2 (sub b hm), g3⟩
  · unfold granted at hc
    split at hc
    · injection hc with hc; injection hc with h1 h2; subst h1; exact .inl rfl
    · exact (hi.own c v e hc).mono fun g cur _ hg hgk => ⟨hg, fun hm => hgk (sub g hm), fun o h1 h2 => ⟨h1, h2⟩⟩
  · unfold granted at h1 h2
    split at h1
    · injection h1 with h1; injection h1 with h1 h3; subst h1; exact .inl rfl
    · split at h2
      · injection h2 with h2; injection h2 with h2 h3; subst h2
        by_cases hn : v.ownBlock = none
        · exact .inl hn
        · exact .inr hn
      · exact hi.dis c c' v v' e e' hne h1 h2

theorem FRel.weak {n0 : Nat} (hr : FRel P κ S F w s a ρ) (hw : Weak n0 s s') : ∃ ρ', FRel P (κ.take s'.h.blocks.length) S F w s' a ρ' := by
  obtain ⟨G, hG, hcell⟩ := hw.gr
  refine ⟨granted G ρ, hr.inv.relax G hw.hp.1 hw.hp.2 hcell hw.closed, fun t => ?_, fun t c e hc => ?_, by rw [hw.df.1]; exact hr.df.1, fun j x d hx hd => ?_⟩
  · rcases hw.tm t with ⟨hle, hb⟩ | hraw
    · exact (VR.le hle (hr.tm t)).shrink hb
    · rw [hraw]; exact .raw
  · rcases hG t c e hc with ⟨h1, h2⟩ | ⟨h1, _, h3⟩
    · simp only [granted, h1]; exact hr.cl t c e h2
    · simp only [granted, h1]
      have hv := hr.tm t
      rw [h3] at hv
      generalize a.tmps.getD t undef = y at hv
      cases hv
      rfl
  · rw [hw.df.1] at hx
    obtain ⟨cap, h1, h2⟩ := hr.df.2 j x d hx hd
    exact ⟨cap, h1, h2.1, fun i y v hy hv => (h2.2 i y v hy hv).shrink (hw.df.2 x (List.mem_of_getElem? hx) y (List.mem_of_getElem? hy))⟩

end
end Go.AW
end

section
namespace Go.AW
section
variable {P : Program} {κ κ' κ0 : List Nat} {S S' S0 F : Nat → Nat → Prop} {w w' w0 : World} {s : ASt} {a : Act} {ρ ρ' : Cls → Option (Value × TypeId)} {h h' : AHeap}
  {o : Oper} {K : ASt → Prop} {Q : AExit → ASt → Prop} {N : Nat}

theorem elem_parts {t e : TypeId} (h : elemOf P t = some e) : P.underlying t = some (.slice e) := by
  unfold elemOf at h
  cases hu : P.underlying t with
  | none => simp [hu] at h
  | some d => cases d <;> simp [hu] at h; subst h; rfl

theorem info_of {t : TypeId} {z b : Nat} {zs : List AV} (hz : szOf P t = some z) (hb : bytesOf P t = some b) (hzs : zeroOf P t = some zs) :
    ∃ (i : TypeInfo) (v : Value), P.info? t = some i ∧ i.size = z ∧ i.bytes = b ∧ i.zero = some v ∧ zs = v.cells.toList.map cav ∧ ∀ c ∈ zs, c.one = true := by
  obtain ⟨i, v, hi, hv, h1, h2⟩ := zero_parts hzs
  simp [szOf, hi] at hz
  simp [bytesOf, hi] at hb
  exact ⟨i, v, hi, hz, hb, hv, h1, h2⟩

def killo (c : Option Cls) (x : Option (Cls × TypeId)) : Option (Cls × TypeId) := match c with
  | some c => killf c x
  | none => x

theorem append_op (hr : FRel P κ S F w s a ρ) (he0 : Ext F κ0 S0 w0 κ S w) (hN : a.tmps.size = N) (hd : ∀ d, o.dst = some d → d < N) {c : Call} {x y : Operand} {t t' : TypeId} (hop : o.op = .call c) (hcal : c.callee = .builtin .append)
    (hargs : c.args.toList = [x, y]) (htys : c.argTypes.toList = [t, t']) (hK : appendA P o.dst t t' (s.ev x) (s.evc x) (s.ev y) s K) : o.wp P a w (Later P N κ0 S0 F w0 K) (LaterQ P N κ0 S0 F w0 Q) := by
  unfold appendA at hK
  split at hK
  · rename_i e he
    obtain ⟨rfl, hK⟩ := hK
    split at hK
    · rename_i es cl ys b z zs ha hn hb hz hzs
      obtain ⟨hbnd, hmax, hpos, hzl, hes, hys, hK⟩ := hK
      obtain ⟨i, zv, hi, rfl, rfl, hzv, hzz, _⟩ := info_of hz hb hzs
      have hev : ∀ k e', s.evc x = some (k, e') → ρ k = some (a.eval x, e') := by
        intro k e' hk
        cases x with
        | tmp tx => exact hr.cl tx k e' hk
        | _ => simp [ASt.evc] at hk
      obtain ⟨v', w1, S1, hrun, hext, hinv, hv⟩ := append_sound (ty := o.type) (zv := zv) hr.inv (o.dst.getD 0) ha hn (hr.ev x) (hr.ev y) hev (elem_parts he) hi hzv (by rw [hzz] at hzl; simpa using hzl) hpos hbnd hmax
        (fun u hu => by simpa using List.all_eq_true.1 hes u hu) (fun u hu => by simpa using List.all_eq_true.1 hys u hu)
      have hrun' : (execOp a.eval o).run P w = .ok (.value v') w1 := by
        obtain ⟨callee, ⟨args⟩, ⟨argTypes⟩⟩ := c
        simp only at hcal hargs htys
        subst hcal hargs htys
        simp [execOp, hop, resolve, invoke, builtin, hrun]
      have hr1 := hr.step hext hinv (cl' := fun u => killf (.tmp (o.dst.getD 0)) (killo cl (s.cl u))) (fun u c' e' hc => by
        obtain ⟨g1, g2⟩ := killf_some hc
        cases cl with
        | none =>
          refine ⟨g1, ?_⟩
          simp [g2, without]
        | some c0 =>
          obtain ⟨g3, g4⟩ := killf_some g1
          refine ⟨g3, ?_⟩
          simp [g2, without, g4])
      refine wp_value (s1 := { s with h := consumed cl s.h, cl := fun u => killf (.tmp (o.dst.getD 0)) (killo cl (s.cl u)) }) hrun' he0 hext hr1 hN hd hv (c := o.dst.map fun d => (.tmp d, e)) ?_ ?_
      · intro k e' hk
        cases hdst : o.dst with
        | none => simp [hdst] at hk
        | some d => simp [hdst] at hk; obtain ⟨rfl, rfl⟩ := hk; simp
      · cases cl <;> exact hK
    · exact hK.elim
  · exact hK.elim

theorem full_one (x : AV) : x.full.one = x.one := by cases x <;> rfl
theorem full_VR {x : AV} {v : Value} (h : VR κ S w x v) : VR κ S w x.full v := by
  cases x <;> first | exact h | exact VR.le .nil h
theorem full_flat (f : Nat → List AV) (n : Nat) : ((List.range n).map fun i => (f i).map AV.full).flatten = (((List.range n).map f).flatten).map AV.full := by
  rw [List.map_flatten, List.map_map]; rfl

theorem vr_full {f : Nat → List AV} {n : Nat} {v : Value} (h : VR κ S w (.slice ((List.range n).map f)) v) : VR κ S w (.slice ((List.range n).map fun i => (f i).map AV.full)) v := by
  generalize he : AV.slice ((List.range n).map f) = y at h
  cases h <;> simp at he
  · subst he; exact .slice0
  · rename_i es sz b off len cap h1 h2 h3 h4 h5
    subst he
    refine .slice (sz := sz) (by simpa using h1) h2 (fun e he => ?_) (fun j c hc => ?_) (fun j c v hc hv => ?_)
    · obtain ⟨i, hi, rfl⟩ := List.mem_map.1 he
      simpa using h3 (f i) (List.mem_map.2 ⟨i, hi, rfl⟩)
    · rw [full_flat, List.getElem?_map] at hc
      obtain ⟨c0, h0, rfl⟩ := Option.map_eq_some_iff.1 hc
      obtain ⟨a1, a2, a3⟩ := h4 j c0 h0
      exact ⟨a1, by rw [full_one]; exact a2, a3⟩
    · rw [full_flat, List.getElem?_map] at hc
      obtain ⟨c0, h0, rfl⟩ := Option.map_eq_some_iff.1 hc
      exact full_VR (h5 j c0 v h0 hv)

theorem buildSlice_op (hr : FRel P κ S F w s a ρ) (he0 : Ext F κ0 S0 w0 κ S w) (hN : a.tmps.size = N) (hd : ∀ d, o.dst = some d → d < N) {t : TypeId} {n : Nat} {parts : Array (Nat × Operand)} (hop : o.op = .buildSlice t n parts)
    (hK : aop P o s K Q) : o.wp P a w (Later P N κ0 S0 F w0 K) (LaterQ P N κ0 S0 F w0 Q) := by
  simp only [aop, hop] at hK
  split at hK
  · rename_i e he
    split at hK
    · rename_i z zs hz hzs
      obtain ⟨hbnd, hpos, hzl, hK⟩ := hK
      split at hK
      · rename_i cs hla
        obtain ⟨i, zv, hi, hzv, hzz, hzo⟩ := zero_parts hzs
        have hisz : i.size = z := by simp [szOf, hi] at hz; exact hz
        have hu := elem_parts he
        -- the zero cells
        have hzsize : zv.cells.size = z := by rw [hzz] at hzl; simpa using hzl
        have hz0 : VRl κ S w (List.replicate n zs).flatten ((Array.range (n * z)).map (zv.cells[· % zv.cells.size]!)) := by
          have hfl : ((List.replicate n zs).flatten).length = n * z := by
            have := flatten_len (es := List.replicate n zs) (z := z) (fun e he => by rw [List.eq_of_mem_replicate he]; exact hzl)
            simpa using this
          refine ⟨by simp [hfl], fun j c u hc hu => ?_⟩
          have hj : j < n * z := by rw [← hfl]; exact (List.getElem?_eq_some_iff.1 hc).1
          have hm : j % z < z := Nat.mod_lt _ hpos
          have hdv : j / z < n := (Nat.div_lt_iff_lt_mul hpos).2 hj
          have h1 : zs[j % z]? = some c := by
            have h2 : (List.replicate n zs)[j / z]? = some zs := by simp [hdv]
            have h3 : zs[j % z]? = some zs[j % z] := List.getElem?_eq_getElem (by omega)
            have h4 := flatten_at (es := List.replicate n zs) (z := z) (fun e he => by rw [List.eq_of_mem_replicate he]; exact hzl) h2 h3
            have h5 : j / z * z + j % z = j := by rw [Nat.mul_comm]; exact Nat.div_add_mod j z
            rw [h5, hc] at h4
            rw [h3, ← h4]
          have hu' : zv.cells[j % z]? = some u := by
            have hlt : j % z < zv.cells.size := by omega
            simp [hj, hzsize] at hu
            rw [getElem?_pos zv.cells (j % z) hlt]
            rw [← hu, getElem!_pos zv.cells (j % z) hlt]
          subst hzz
          rw [List.getElem?_map, Array.getElem?_toList, hu'] at h1
          simp at h1
          subst h1
          exact cav_sound u
        have hzo' : ∀ c ∈ (List.replicate n zs).flatten, c.one = true := by
          intro c hc
          obtain ⟨l, hl, hcl⟩ := List.mem_flatten.1 hc
          rw [List.eq_of_mem_replicate hl] at hcl
          exact hzo c hcl
        obtain ⟨h1, h2⟩ := elemsA_spec (ev := s.ev) (n := z) parts.toList
        obtain ⟨cells', hf, hvr, ho⟩ := laid_sound (κ := κ) (S := S) (w := w) (place := fun i => some (i * z, z)) (ps := parts.toList.map fun (i, x) => (i, a.eval x)) hla (by simpa using h1) hz0 hzo' (by
          intro j i' u o' z' x' ha hb
          rw [List.getElem?_map] at ha
          cases hj : parts.toList[j]? with
          | none => simp [hj] at ha
          | some p =>
            simp [hj] at ha
            obtain ⟨rfl, rfl⟩ := ha
            obtain ⟨e1, e2, e3⟩ := h2 j p.1 p.2 o' z' x' (by simpa using hj) hb
            subst e1 e2 e3
            exact ⟨rfl, hr.ev _⟩)
        have hcl : cs.length = n * z := by
          unfold laidA at hla
          split at hla
          · injection hla with hla
            subst hla
            have hfl : ((List.replicate n zs).flatten).length = n * z := by
              have := flatten_len (es := List.replicate n zs) (z := z) (fun e he => by rw [List.eq_of_mem_replicate he]; exact hzl)
              simpa using this
            have := hvr.1
            have h3 : cells'.size = n * z := by
              have hfs : ∀ (ps : List (Nat × Value)) (c c' : Array Value), Instr.fill (fun i => some (i * z, z)) c ps = some c' → c'.size = c.size := by
                intro ps
                induction ps with
                | nil => intro c c' h; simp [Instr.fill] at h; rw [h]
                | cons p ps ih =>
                  intro c c' h
                  obtain ⟨i', v⟩ := p
                  simp only [Instr.fill] at h
                  split at h
                  · cases h
                  · rw [ih _ _ h, zipIdx_foldl]
                    exact (foldl_zip _ _ 0 c).1
              rw [hfs _ _ _ hf]; simp
            rw [← h3]; exact hvr.1.symm
          · cases hla
        have hnm : n ≤ maxLen := by
          have : n ≤ n * z := Nat.le_mul_of_pos_right n hpos
          simp only [maxLen]; omega
        have hrun : (execOp a.eval o).run P w = .ok (.value (.slice (some ⟨w.heap.size, 0, none⟩) n n)) (w.alloc (.cells cells' e)) := by
          have hb' : ¬ (n * z > 2 ^ 24) := by omega
          have hf' : Instr.fill (fun i => some (i * z, z)) ((Array.range (n * z)).map (zv.cells[· % zv.cells.size]!)) (parts.map fun (i, x) => (i, a.eval x)).toList = some cells' := by simpa using hf
          have hb2 : ¬ (16777216 < n * z) := by omega
          by_cases hn0 : n * z = 0
          · rw [hn0] at hf'
            have hr0 : ∀ f : Nat → Value, (Array.range 0).map f = #[] := by simp
            rw [hr0] at hf'
            have hn0' : n = 0 := by
              rcases Nat.mul_eq_zero.1 hn0 with h | h
              · exact h
              · omega
            subst hn0'
            simp only [Array.toList_map] at hf'
            simp [execOp, hop, Instr.buildSlice, run_under hu, run_size hz, hr0, hf', newRow]
          · simp only [execOp, hop, Instr.buildSlice, Sem.run_bind, run_under hu, run_size hz, Result.andThen_ok, Sem.run_ite, if_neg hb', if_neg hn0, run_zero hi hzv, Sem.run_pure]
            rw [hf']
            simp only [Sem.run_bind, newRow, run_newObj, Result.andThen_ok, Sem.run_pure]
            rfl
        obtain ⟨hext, hinv⟩ := hr.inv.row (n := n) (m := n) (arr := cells') (o.dst.getD 0) hi (by rw [hisz, ← hcl]; exact hvr.1) (Nat.le_refl _) hnm
        have hr1 := hr.step hext hinv (cl' := fun u => killf (.tmp (o.dst.getD 0)) (s.cl u)) (fun u c' e' hc => by
          obtain ⟨g1, g2⟩ := killf_some hc
          exact ⟨g1, by simp [g2]⟩)
        have hes : ∀ x ∈ (List.range n).map (fun i => (cs.drop (i * z)).take z), x.length = z := by
          intro x hx
          obtain ⟨j, hj, rfl⟩ := List.mem_map.1 hx
          have hj' : j + 1 ≤ n := List.mem_range.1 hj
          have : (j + 1) * z ≤ n * z := Nat.mul_le_mul_right _ hj'
          rw [Nat.succ_mul] at this
          simp [hcl]; omega
        have hfl : ((List.range n).map (fun i => (cs.drop (i * z)).take z)).flatten = cs := by
          have : ∀ (m : Nat), m * z ≤ cs.length → ((List.range m).map (fun i => (cs.drop (i * z)).take z)).flatten = cs.take (m * z) := by
            intro m
            induction m with
            | zero => simp
            | succ m ih =>
              intro hm
              rw [Nat.succ_mul] at hm
              rw [List.range_succ, List.map_append, List.flatten_append, ih (by omega), Nat.succ_mul, List.take_add]
              simp
          rw [this n (by omega), List.take_of_length_le (by omega)]
        refine wp_value (s1 := { s with cl := fun u => killf (.tmp (o.dst.getD 0)) (s.cl u) }) (c := o.dst.map fun d => (.tmp d, e)) hrun he0 hext hr1 hN hd ?_ ?_ hK
        · refine vr_full ?_
          have := row_VR (κ := κ) (es := (List.range n).map (fun i => (cs.drop (i * z)).take z)) (cap := n) (S := fun b o => S b o ∨ (b = w.heap.size ∧ o < n * i.size)) (heap_alloc_new w (.cells cells' e)) hes (by simp) ?_
          · simpa using this
          · intro j c hj
            rw [hfl] at hj
            have hjl := (List.getElem?_eq_some_iff.1 hj).1
            refine ⟨.inr ⟨rfl, by rw [hisz]; omega⟩, ho c (List.mem_of_getElem? hj), ?_⟩
            have hlt : j < cells'.size := by rw [hvr.1]; exact hjl
            exact ⟨cells'[j], by simp [hlt], (hvr.2 j c _ hj (by simp [hlt])).ext hext⟩
        · intro k e' hk
          cases hdst : o.dst with
          | none => simp [hdst] at hk
          | some d => simp [hdst] at hk; obtain ⟨rfl, rfl⟩ := hk; simp
      · exact hK.elim
    · exact hK.elim
  · exact hK.elim

end
end Go.AW
end

section
namespace Go.AW
section
variable {P : Program} {κ κ' κ0 : List Nat} {S S' S0 F : Nat → Nat → Prop} {w w' w0 : World} {s : ASt} {a : Act} {ρ ρ' : Cls → Option (Value × TypeId)} {h h' : AHeap}
  {o : Oper} {K : ASt → Prop} {Q : AExit → ASt → Prop} {N : Nat}

theorem VR.wider {x : AV} {v : Value} {n : Nat} (h : VR (κ.take n) S w x v) : VR κ S w x v := by
  generalize hk : κ.take n = κ1 at h
  induction h with
  | bool b => exact .bool b
  | int k n => exact .int k n
  | str l => exact .str l
  | nilptr => exact .nilptr
  | ptr hk' =>
    subst hk
    refine .ptr ?_
    rw [List.getElem?_take] at hk'
    split at hk'
    · exact hk'
    · cases hk'
  | vptr hS _ ih => exact .vptr hS (fun j c v hc hv => ih j c v hc hv)
  | nils => exact .nils
  | slice0 => exact .slice0
  | slice h1 h2 h3 hS _ ih => exact .slice h1 h2 h3 hS (fun j c v hc hv => ih j c v hc hv)
  | func h1 h2 _ _ ih1 ih2 => exact .func h1 h2 (fun j c v hc hv => ih1 j c v hc hv) (fun j c v hc hv => ih2 j c v hc hv)
  | nilFunc => exact .nilFunc
  | iface _ ih => exact .iface ih
  | nilIface => exact .nilIface
  | agg h1 h2 _ ih => exact .agg h1 h2 (fun j c v hc hv => ih j c v hc hv)
  | tup h1 _ ih => exact .tup h1 (fun j c v hc hv => ih j c v hc hv)
  | raw => exact .raw

/-- Rights that a callee does not see. -/
def Hidden (m : Nat) : Cls → Prop
  | .tmp _ => True
  | .cell k _ => m ≤ k

def SpareH (P : Program) (m : Nat) (ρ : Cls → Option (Value × TypeId)) (b o : Nat) : Prop :=
  ∃ c v e nn cap i, Hidden m c ∧ ρ c = some (v, e) ∧ v = .slice (some ⟨b, 0, none⟩) nn cap ∧ P.info? e = some i ∧ nn * i.size ≤ o

def shown (m : Nat) (ρ : Cls → Option (Value × TypeId)) : Cls → Option (Value × TypeId)
  | .cell k j => if k < m then ρ (.cell k j) else none
  | .tmp _ => none

theorem shown_some {m : Nat} {c : Cls} {v : Value} {e : TypeId} (h : shown m ρ c = some (v, e)) : ρ c = some (v, e) ∧ ¬ Hidden m c := by
  cases c with
  | tmp n => simp [shown] at h
  | cell k j =>
    simp only [shown] at h
    split at h
    · exact ⟨h, by simp only [Hidden]; omega⟩
    · cases h

theorem SpareH.of_owned {m : Nat} {c : Cls} {v : Value} {e : TypeId} (hh : Hidden m c) (hn : ρ c = some (v, e)) (ho : Owned P κ S F w v e) {g : Nat} (hg : v.ownBlock = some g) : ∃ b, ∀ o, b ≤ o → SpareH P m ρ g o := by
  rcases ho with rfl | ⟨g', nn, cap, cur, i, rfl, h1, _⟩
  · simp [Value.ownBlock] at hg
  · simp [Value.ownBlock] at hg
    subst hg
    exact ⟨nn * i.size, fun o ho => ⟨c, _, e, nn, cap, i, hh, hn, rfl, h1, ho⟩⟩

/-- What is kept from a callee. -/
def Kept (P : Program) (m : Nat) (κ : List Nat) (F : Nat → Nat → Prop) (ρ : Cls → Option (Value × TypeId)) (b o : Nat) : Prop := F b o ∨ SpareH P m ρ b o ∨ b ∈ κ.drop m

theorem Inv.calleeF (hi : Inv P κ S F w h ρ) {m : Nat} (hm : m ≤ h.blocks.length) (hc : Closed ⟨h.blocks.take m⟩) : Inv P (κ.take m) S (Kept P m κ F ρ) w ⟨h.blocks.take m⟩ (shown m ρ) := by
  have hlm : (h.blocks.take m).length = m := by simp; omega
  have hf := hi.forget (h' := ⟨h.blocks.take m⟩) (L := h.blocks.drop m) (by simp) hc
  simp only [hlm] at hf
  refine ⟨hf.len, hf.nd, fun k b cs hk hb => ?_, hf.sIn, fun b o hf' => ?_, fun b o o' hf' ho => ?_, fun c v e hc => ?_, fun c c' v v' e e' hne hc hc' => ?_⟩
  · obtain ⟨arr, T, g1, g2, g3⟩ := hf.blk k b cs hk hb
    refine ⟨arr, T, g1, g2, fun j c v h1 h2 => ?_⟩
    obtain ⟨f1, f2, f3⟩ := g3 j c v h1 h2
    refine ⟨f1, f2, fun e he => ?_⟩
    have hlt : k < m := by have := (List.getElem?_eq_some_iff.1 hb).1; simp at this; omega
    simp only [shown, if_pos hlt]
    exact f3 e he
  · rcases hf' with hf' | ⟨c, v, e, nn, cap, i, hh, hn, rfl, hin, hle⟩ | hd
    · exact hf.fIn b o hf'
    · rcases hi.own _ _ _ hn with hh' | ⟨g', nn', cap', cur, i', hh', h1, h2, h3, h4, h5, h6, h7⟩
      · cases hh'
      · injection hh' with hh1 hh2 hh3
        injection hh1 with hh1
        injection hh1 with hh1
        subst hh1 hh2 hh3
        rw [hin] at h1; injection h1 with h1; subst h1
        exact ⟨(Array.getElem?_eq_some_iff.1 h2).1, fun hm => h6 (List.mem_of_mem_take hm), (h7 o hle).1⟩
    · have hbk : b ∈ κ := List.mem_of_mem_drop hd
      obtain ⟨k, hk⟩ := List.getElem?_of_mem hbk
      have hkl : k < h.blocks.length := by rw [← hi.len]; exact (List.getElem?_eq_some_iff.1 hk).1
      obtain ⟨arr, T, g1, _⟩ := hi.blk k b h.blocks[k] hk (List.getElem?_eq_getElem hkl)
      refine ⟨(Array.getElem?_eq_some_iff.1 g1).1, fun ht => ?_, fun hs => (hi.sIn b o hs).2 hbk⟩
      have hnd := hi.nd
      rw [← List.take_append_drop m κ, List.nodup_append] at hnd
      exact hnd.2.2 b ht b hd rfl
  · rcases hf' with hf' | ⟨c, v, e, nn, cap, i, hh, hn, hv, hin, hle⟩ | hd
    · exact .inl (hi.fUp b o o' hf' ho)
    · exact .inr (.inl ⟨c, v, e, nn, cap, i, hh, hn, hv, hin, Nat.le_trans hle ho⟩)
    · exact .inr (.inr hd)
  · obtain ⟨hc1, hnh⟩ := shown_some hc
    refine (hi.own _ _ _ hc1).mono fun g cur hvg hg hgk => ⟨hg, fun hm => hgk (List.mem_of_mem_take hm), fun o h1 h2 => ⟨h1, ?_⟩⟩
    rintro (hf' | ⟨c2, v2, e2, nn, cap, i, hh, hn, rfl, hin, hle⟩ | hd)
    · exact h2 hf'
    · rcases hi.dis c c2 v _ e e2 (fun h => hnh (h ▸ hh)) hc1 hn with hd | hd
      · rw [hvg] at hd; cases hd
      · exact hd (by rw [hvg]; rfl)
    · exact hgk (List.mem_of_mem_drop hd)
  · exact hi.dis _ _ v v' e e' hne (shown_some hc).1 (shown_some hc').1

def afterFrame (m d : Nat) (res : Option (Value × TypeId)) (ρ ρ' : Cls → Option (Value × TypeId)) : Cls → Option (Value × TypeId)
  | .cell k j => if k < m then ρ' (.cell k j) else ρ (.cell k j)
  | .tmp n => if n = d then res else ρ (.tmp n)

def back1 (c : Cls) : Cls := match c with | .cell k j => .cell k j | .tmp _ => .tmp 0

theorem afterFrame_some {m d : Nat} {res : Option (Value × TypeId)} (hres : ∀ v e, res = some (v, e) → ρ' (.tmp 0) = some (v, e)) {c : Cls} {v : Value} {e : TypeId} (h : afterFrame m d res ρ ρ' c = some (v, e)) :
    (ρ' (back1 c) = some (v, e) ∧ (c = .tmp d ∨ ¬ Hidden m c)) ∨ (ρ c = some (v, e) ∧ Hidden m c ∧ c ≠ .tmp d) := by
  cases c with
  | cell k j =>
    simp only [afterFrame] at h
    split at h
    · exact .inl ⟨h, .inr (by simp only [Hidden]; omega)⟩
    · exact .inr ⟨h, by simp only [Hidden]; omega, by simp⟩
  | tmp n =>
    simp only [afterFrame] at h
    split at h
    · rename_i hn; subst hn; exact .inl ⟨hres v e h, .inl rfl⟩
    · rename_i hn; exact .inr ⟨h, trivial, by simpa using hn⟩

theorem cell_at {b : Nat} {arr : Array Value} {T : TypeId} {fr : Nat × Nat} (h : w.heap[b]? = some (.cells arr T fr)) (o : Nat) : w.at_ b o = arr[o]? := by
  simp [World.at_, World.cell?, h]

theorem Inv.backF {m : Nat} (hi : Inv P κ S F w h ρ) (hm : m ≤ h.blocks.length) {κ1 : List Nat} {S1 : Nat → Nat → Prop} {w1 : World} {h1 : AHeap} {ρ1 : Cls → Option (Value × TypeId)} (he : Ext (Kept P m κ F ρ) (κ.take m) S w κ1 S1 w1)
    (hi1 : Inv P κ1 S1 (Kept P m κ F ρ) w1 h1 ρ1) (hl : h1.blocks.length = m) (d : Nat) {res : Option (Value × TypeId)} (hres : ∀ v e, res = some (v, e) → ρ1 (.tmp 0) = some (v, e)) :
    κ1 = κ.take m ∧ Ext F κ S w κ S1 w1 ∧ Inv P κ S1 F w1 ⟨h1.blocks ++ h.blocks.drop m⟩ (afterFrame m d res ρ ρ1) := by
  have hκm : m ≤ κ.length := by rw [hi.len]; exact hm
  have hκ1 : κ1 = κ.take m := by
    obtain ⟨ks, hks, _⟩ := he.pre
    have h2 := hi1.len
    rw [hl, hks, List.length_append, List.length_take, Nat.min_eq_left hκm] at h2
    have : ks = [] := List.length_eq_zero_iff.1 (by omega)
    rw [hks, this, List.append_nil]
  subst hκ1
  have hE : Ext F κ S w κ S1 w1 := ⟨⟨[], by simp⟩, he.sub, he.keep, fun b o hb => he.keepF b o (.inl hb), he.grow, he.size, he.still⟩
  have mem : ∀ b, b ∈ κ → b ∈ κ.take m ∨ b ∈ κ.drop m := fun b hb => by
    rw [← List.take_append_drop m κ] at hb; exact List.mem_append.1 hb
  have hid : ∀ c v e, ρ c = some (v, e) → Hidden m c → Owned P κ S1 F w1 v e := by
    intro c v e hn hh
    rcases hi.own _ _ _ hn with rfl | ⟨g, nn, cap, cur, i, rfl, h1, h2, h3, h4, h5, h6, h7⟩
    · exact .inl rfl
    · obtain ⟨arr', g1, g2⟩ := he.grow g cur e (0, 0) h2
      exact .inr ⟨g, nn, cap, arr', i, rfl, h1, g1, h3, h4, by rw [g2, h5], h6, fun o ho => ⟨(hi1.fIn g o (.inr (.inl ⟨c, _, e, nn, cap, i, hh, hn, rfl, h1, ho⟩))).2.2, (h7 o ho).2⟩⟩
  have vis : ∀ c v e, ρ1 c = some (v, e) → Owned P κ S1 F w1 v e := by
    intro c v e hn
    refine (hi1.own _ _ _ hn).mono fun g cur hvg hg hgk => ⟨hg, fun hm => ?_, fun o h1 h2 => ⟨h1, fun hf => h2 (.inl hf)⟩⟩
    rcases mem g hm with h2 | h2
    · exact hgk h2
    · obtain ⟨_, _, b, hb⟩ := (hi1.own _ _ _ hn).lt hvg
      exact (hb b (Nat.le_refl _)).2 (.inr (.inr h2))
  have apart : ∀ c v e c' v' e', ρ c = some (v, e) → Hidden m c → ρ1 c' = some (v', e') → v.ownBlock = none ∨ v.ownBlock ≠ v'.ownBlock := by
    intro c v e c' v' e' hn hh hc'
    cases hvb : v.ownBlock with
    | none => exact .inl rfl
    | some g =>
      right
      intro hh'
      obtain ⟨b, hb⟩ := SpareH.of_owned hh hn (hi.own _ _ _ hn) hvb
      obtain ⟨_, _, b', hb'⟩ := (hi1.own _ _ _ hc').lt hh'.symm
      exact (hb' (max b b') (by omega)).2 (.inr (.inl (hb _ (by omega))))
  have sym : ∀ {v v' : Value}, (v.ownBlock = none ∨ v.ownBlock ≠ v'.ownBlock) → (v'.ownBlock = none ∨ v'.ownBlock ≠ v.ownBlock) := by
    intro v v' hh
    rcases hh with hh | hh
    · by_cases hv' : v'.ownBlock = none
      · exact .inl hv'
      · exact .inr (by rw [hh]; exact hv')
    · exact .inr (fun e => hh e.symm)
  refine ⟨rfl, hE, by simp [hi.len, hl]; omega, hi.nd, fun k b cs hk hb => ?_, fun b o hs => ⟨(hi1.sIn b o hs).1, fun hm => ?_⟩, fun b o hf => ⟨(hi1.fIn b o (.inl hf)).1, (hi.fIn b o hf).2.1, (hi1.fIn b o (.inl hf)).2.2⟩, hi.fUp, fun c v e hc => ?_, fun c c' v v' e e' hne hc hc' => ?_⟩
  · simp only at hb
    by_cases hkm : k < m
    · rw [List.getElem?_append_left (by omega)] at hb
      obtain ⟨arr, T, g1, g2, g3⟩ := hi1.blk k b cs (by rw [List.getElem?_take, if_pos hkm]; exact hk) hb
      refine ⟨arr, T, g1, g2, fun j c v h1 h2 => ?_⟩
      obtain ⟨f1, f2, f3⟩ := g3 j c v h1 h2
      exact ⟨f1.wider, f2, fun e he => by simp only [afterFrame, if_pos hkm]; exact f3 e he⟩
    · rw [List.getElem?_append_right (by omega), List.getElem?_drop] at hb
      have hb' : h.blocks[k]? = some cs := by rw [← hb]; congr 1; omega
      obtain ⟨arr, T, g1, g2, g3⟩ := hi.blk k b cs hk hb'
      obtain ⟨arr', k1, k2⟩ := he.grow b arr T (0, 0) g1
      have hbd : b ∈ κ.drop m := by
        refine List.mem_of_getElem? (i := k - m) ?_
        rw [List.getElem?_drop, ← hk]; congr 1; omega
      refine ⟨arr', T, k1, by rw [k2, g2], fun j c v h1 h2 => ?_⟩
      have h3 := he.keepF b j (.inr (.inr hbd))
      rw [cell_at k1, cell_at g1, h2] at h3
      obtain ⟨f1, f2, f3⟩ := g3 j c v h1 h3.symm
      exact ⟨f1.ext hE, f2, fun e he => by simp only [afterFrame, if_neg hkm]; exact f3 e he⟩
  · rcases mem b hm with h2 | h2
    · exact (hi1.sIn b o hs).2 h2
    · exact (hi1.fIn b o (.inr (.inr h2))).2.2 hs
  · rcases afterFrame_some hres hc with ⟨h1, _⟩ | ⟨h1, h2, _⟩
    · exact vis _ _ _ h1
    · exact hid _ _ _ h1 h2
  · rcases afterFrame_some hres hc with ⟨h1, h1'⟩ | ⟨h1, h2, h3⟩
    · rcases afterFrame_some hres hc' with ⟨k1, k1'⟩ | ⟨k1, k2, _⟩
      · refine hi1.dis _ _ v v' e e' (fun hb => hne ?_) h1 k1
        cases c with
        | cell k j =>
          cases c' with
          | cell k' j' => exact hb
          | tmp n => simp [back1] at hb
        | tmp n =>
          cases c' with
          | cell k' j' => simp [back1] at hb
          | tmp n' =>
            have h5 : n = d := by rcases h1' with h | h; simpa using h; exact absurd trivial h
            have h6 : n' = d := by rcases k1' with h | h; simpa using h; exact absurd trivial h
            rw [h5, h6]
      · exact sym (apart _ _ _ _ _ _ k1 k2 h1)
    · rcases afterFrame_some hres hc' with ⟨k1, k1'⟩ | ⟨k1, k2, _⟩
      · exact apart _ _ _ _ _ _ h1 h2 k1
      · exact hi.dis _ _ v v' e e' hne h1 k1

theorem killb_some {m : Nat} {c : Cls} {x : Option (Cls × TypeId)} {e : TypeId} (h : killb m x = some (c, e)) : x = some (c, e) ∧ Hidden m c := by
  match x, h with
  | some (.cell k j, e'), h =>
    simp only [killb] at h
    split at h
    · cases h
    · cases h; exact ⟨rfl, by simp only [Hidden]; omega⟩
  | some (.tmp n, e'), h => cases h; exact ⟨rfl, trivial⟩

theorem frame_op (hr : FRel P κ S F w s a ρ) (he0 : Ext F κ0 S0 w0 κ S w) (hN : a.tmps.size = N) (hd : ∀ d, o.dst = some d → d < N) {c : Call} {f : Operand} (hop : o.op = .call c) (hcal : c.callee = .value f) {m : Nat}
    (hK : frameA P m o.dst (s.ev f) (c.args.toList.map s.ev) s K Q) : o.wp P a w (Later P N κ0 S0 F w0 K) (LaterQ P N κ0 S0 F w0 Q) := by
  unfold frameA at hK
  split at hK
  · rename_i g fst cap hf
    obtain ⟨hbody, hm, hbel, hcl, hcall⟩ := hK
    have hvf := hr.ev f
    rw [hf] at hvf
    generalize hfv : a.eval f = fv at hvf
    cases hvf with
    | func hs1 hs2 hv1 hv2 =>
      rename_i fst' cap'
      have hargs : VRs (κ.take m) S w (fst ++ c.args.toList.map s.ev ++ cap) (fst' ++ c.args.map a.eval ++ cap').toList := by
        refine ⟨by simp [hs1, hs2], fun j x v hx hv => ?_⟩
        refine VR.shrink ?_ (hbel x (List.mem_of_getElem? hx))
        simp only [Array.toList_append, Array.toList_map] at hv
        rw [List.append_assoc, List.getElem?_append] at hx hv
        simp only [Array.length_toList, hs1] at hv
        by_cases hj : j < fst.length
        · rw [if_pos hj] at hx hv
          exact hv1 j x v hx (by simpa using hv)
        · rw [if_neg hj, List.getElem?_append] at hx hv
          simp only [List.length_map] at hx hv
          by_cases hj2 : j - fst.length < c.args.toList.length
          · rw [if_pos hj2] at hx hv
            rw [List.getElem?_map] at hx hv
            cases hc : c.args.toList[j - fst.length]? with
            | none => simp [hc] at hx
            | some y => simp [hc] at hx hv; subst hx hv; exact hr.ev y
          · rw [if_neg hj2] at hx hv
            exact hv2 _ x v hx (by simpa using hv)
      have hc := hcall (κ.take m) S _ w (shown m ρ) _ (hr.inv.calleeF hm hcl) hargs
      unfold Oper.wp
      have hrun : (execOp a.eval o).run P w = .ok (.enter g (fst' ++ c.args.map a.eval ++ cap')) w := by
        obtain ⟨callee, args, argTypes⟩ := c
        simp only at hcal
        subst hcal
        simp only [execOp, hop, resolve, hfv, Deferred.ofValue, Sem.run_bind, Sem.run_pure, Result.andThen_ok, invoke]
        exact run_enter hbody _
      rw [hrun, Oper.upon_enter]
      simp only [Array.toArray_toList] at hc
      refine hc.mono fun e w1 hpost => ?_
      obtain ⟨κ1, S1, h1, ρ1, ae, he', hi1, hend, hl, hR⟩ := hpost
      cases ae with
      | ret v oo =>
        cases e with
        | returned val =>
          obtain ⟨hvv, hoo⟩ := hend
          obtain ⟨rfl, he, hib⟩ := hr.inv.backF hm he' hi1 hl (o.dst.getD 0) (res := oo.map fun e => (val, e)) (fun v' e' hh => by
            cases oo with
            | none => simp at hh
            | some e1 => simp at hh; obtain ⟨rfl, rfl⟩ := hh; exact hoo _ rfl)
          have hr1 := hr.step he hib (cl' := fun t => killf (.tmp (o.dst.getD 0)) (killb m (s.cl t))) (fun t c e hc => by
            obtain ⟨g1, g2⟩ := killf_some hc
            obtain ⟨g3, g4⟩ := killb_some g1
            refine ⟨g3, ?_⟩
            cases c with
            | tmp n => simp only [afterFrame]; rw [if_neg (fun hh => g2 (by rw [hh]))]
            | cell k j => simp only [Hidden] at g4; simp only [afterFrame]; rw [if_neg (by omega)])
          refine ⟨κ, S1, _, _, he0.trans he, hr1.put hvv.wider (fun d h => by rw [hN]; exact hd d h) (fun k e hk => ?_), (put_size a _ _).trans hN, hR⟩
          cases oo with
          | none => simp at hk
          | some e1 => simp at hk; obtain ⟨rfl, rfl⟩ := hk; simp [afterFrame]
        | panicked chain => exact hend.elim
        | outgrown => exact hend.elim
      | panic v =>
        cases e with
        | returned val => exact hend.elim
        | outgrown => exact hend.elim
        | panicked chain =>
          obtain ⟨rfl, he, hib⟩ := hr.inv.backF hm he' hi1 hl 0 (res := none) (fun v' e' hh => by cases hh)
          have hr1 := hr.step he hib (cl' := fun t => none) (fun t c e hc => by cases hc)
          match chain, hend with
          | [{ v := val, recovered := false, goexit := false }], hend =>
            exact ⟨κ, S1, _, _, v, val, he0.trans he, hr1.bare, hend.wider, rfl, hR⟩
  · exact hK.elim

end
end Go.AW
end

section
namespace Go.AW
section
variable {P : Program} {κ κ' κ0 : List Nat} {S S' S0 F : Nat → Nat → Prop} {w w' w0 : World} {s : ASt} {a : Act} {ρ ρ' : Cls → Option (Value × TypeId)} {h h' : AHeap}
  {o : Oper} {K : ASt → Prop} {Q : AExit → ASt → Prop} {N : Nat}

theorem args_VRs (hr : FRel P κ S F w s a ρ) {fst cap : List AV} {fst' cap' : Array Value} (args : Array Operand) (hs1 : fst'.size = fst.length) (hs2 : cap'.size = cap.length)
    (hv1 : ∀ (j : Nat) (c : AV) (v : Value), fst[j]? = some c → fst'[j]? = some v → VR κ S w c v) (hv2 : ∀ (j : Nat) (c : AV) (v : Value), cap[j]? = some c → cap'[j]? = some v → VR κ S w c v) :
    VRs κ S w (fst ++ args.toList.map s.ev ++ cap) (fst' ++ args.map a.eval ++ cap').toList := by
  refine ⟨by simp [hs1, hs2], fun j x v hx hv => ?_⟩
  simp only [Array.toList_append, Array.toList_map] at hv
  rw [List.append_assoc, List.getElem?_append] at hx hv
  simp only [Array.length_toList, hs1] at hv
  by_cases hj : j < fst.length
  · rw [if_pos hj] at hx hv
    exact hv1 j x v hx (by simpa using hv)
  · rw [if_neg hj, List.getElem?_append] at hx hv
    simp only [List.length_map] at hx hv
    by_cases hj2 : j - fst.length < args.toList.length
    · rw [if_pos hj2] at hx hv
      rw [List.getElem?_map] at hx hv
      cases hc : args.toList[j - fst.length]? with
      | none => simp [hc] at hx
      | some y => simp [hc] at hx hv; subst hx hv; exact hr.ev y
    · rw [if_neg hj2] at hx hv
      exact hv2 _ x v hx (by simpa using hv)

theorem defer_op (hr : FRel P κ S F w s a ρ) (he0 : Ext F κ0 S0 w0 κ S w) (hN : a.tmps.size = N) (hd : ∀ d, o.dst = some d → d < N) {c : Call} {f : Operand} (hop : o.op = .defer c) (hcal : c.callee = .value f)
    (hK : deferA (s.ev f) (c.args.toList.map s.ev) s fun s' => K (s'.put o.dst .raw)) : o.wp P a w (Later P N κ0 S0 F w0 K) (LaterQ P N κ0 S0 F w0 Q) := by
  unfold deferA at hK
  split at hK
  · rename_i g fst cap hf
    have hvf := hr.ev f
    rw [hf] at hvf
    generalize hfv : a.eval f = fv at hvf
    cases hvf with
    | func hs1 hs2 hv1 hv2 =>
      rename_i fst' cap'
      have hrun : (execOp a.eval o).run P w = .ok (.defer { target := .fn (.func g) cap', args := fst' ++ c.args.map a.eval }) w := by
        obtain ⟨callee, args, argTypes⟩ := c
        simp only at hcal
        subst hcal
        simp only [execOp, hop, resolve, hfv, Deferred.ofValue, Sem.run_bind, Sem.run_pure, Result.andThen_ok]
      unfold Oper.wp
      rw [hrun, Oper.upon_defer]
      have hargs := args_VRs hr c.args hs1 hs2 hv1 hv2
      have hr1 : FRel P κ S F w { s with df := (g, fst ++ c.args.toList.map s.ev ++ cap) :: s.df } { a with defers := { target := .fn (.func g) cap', args := fst' ++ c.args.map a.eval } :: a.defers } ρ := by
        refine ⟨hr.inv, hr.tm, hr.cl, by simp [hr.df.1], fun j x d hx hd' => ?_⟩
        cases j with
        | zero =>
          simp at hx hd'
          subst hx hd'
          exact ⟨cap', rfl, by simpa using hargs⟩
        | succ j => exact hr.df.2 j x d (by simpa using hx) (by simpa using hd')
      exact ⟨κ, S, _, ρ, he0, hr1.put .raw (fun d h => by show d < a.tmps.size; rw [hN]; exact hd d h) (by simp), (put_size _ _ _).trans hN, hK⟩
  · exact hK.elim

theorem panic_op (hr : FRel P κ S F w s a ρ) (he0 : Ext F κ0 S0 w0 κ S w) {x : Operand} (hop : o.op = .panic x) (hK : aop P o s K Q) : o.wp P a w (Later P N κ0 S0 F w0 K) (LaterQ P N κ0 S0 F w0 Q) := by
  simp only [aop, hop] at hK
  split at hK
  · rename_i t v hx
    have hv := hr.ev x
    rw [hx] at hv
    generalize hxv : a.eval x = xv at hv
    cases hv with
    | iface hi =>
      rename_i v'
      have hrun : (execOp a.eval o).run P w = .halt (.panic (.iface t v')) w := by
        simp [execOp, hop, hxv, Instr.panic]
      unfold Oper.wp
      rw [hrun, Oper.upon_panic]
      exact ⟨κ, S, _, ρ, _, _, he0, hr.bare, .iface hi, rfl, hK⟩
  · exact hK.elim

/-- Every operation. -/
theorem aop_sound (hr : FRel P κ S F w s a ρ) (he0 : Ext F κ0 S0 w0 κ S w) (hN : a.tmps.size = N) (hd : ∀ d, o.dst = some d → d < N) (hK : aop P o s K Q) :
    o.wp P a w (Later P N κ0 S0 F w0 K) (LaterQ P N κ0 S0 F w0 Q) := by
  cases hop : o.op with
  | alloc t =>
    simp only [aop, hop] at hK
    split at hK
    · rename_i z hz; exact alloc_op hr he0 hN hd hop hz hK
    · exact hK.elim
  | box t x =>
    simp only [aop, hop] at hK
    exact box_op hr he0 hN hd hop hK.1 hK.2
  | load t x => exact load_op hr he0 hN hd hop hK
  | store t x y => exact store_op hr he0 hN hd hop hK
  | buildSlice t n parts => exact buildSlice_op hr he0 hN hd hop hK
  | panic x => exact panic_op hr he0 hop hK
  | call c =>
    simp only [aop, hop] at hK
    split at hK
    · rename_i hcal
      split at hK
      · rename_i x y t t' h1 h2
        exact append_op hr he0 hN hd hop hcal h1 h2 hK
      · exact hK.elim
    · rename_i f hcal
      rcases hK with hK | ⟨m, hK⟩
      · exact call_op hr he0 hN hd hop hcal hK
      · exact frame_op hr he0 hN hd hop hcal hK
    · split at hK
      · rename_i v hp
        rw [← hop] at hp
        exact pure_op hr he0 hN hd hp (by rw [hop]; exact hK)
      · exact hK.elim
  | defer c =>
    simp only [aop, hop] at hK
    split at hK
    · rename_i f hcal
      exact defer_op hr he0 hN hd hop hcal hK
    · exact hK.elim
  | _ =>
    simp only [aop, hop] at hK
    split at hK
    · rename_i v hp
      rw [← hop] at hp hK
      exact pure_op hr he0 hN hd hp hK
    · exact hK.elim

end
end Go.AW
end
