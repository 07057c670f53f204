/- Rules for memory that the call owns: new blocks, stores, freezing. No condition beyond those that each theorem names. -/
import Derived.Test.YtmelbclhkkbmiaaGreatK2
set_option linter.unusedVariables false
set_option linter.unusedSimpArgs false
namespace Go.Proofs.YtmelbclhkkbmiaaGreat.K
open Go Go.RowKit

section
variable {P : Program} {ops : Array Oper} {Q : Exit → Act → World → Prop} {e : Ent} {n : Nat} {L : List (Nat × Value)} {I : Imm} {own : List Res}

/-! ### Memory turns -/
theorem keys_perm {l m : List Res} (h : l.Perm m) : (keysOf l).Perm (keysOf m) := h.flatMap_right _
theorem I_none {w : World} (h : St w I own) {k : Nat} (hk : w.heap.size ≤ k) : I k = none := by
  cases hI : I k with
  | none => rfl
  | some o => have := lt_of_some (h.ok _ _ hI); omega
/-- One resource is turned into another: only its own blocks, and new ones. -/
theorem S.turn {w w' : World} {r r' : Res} {rest : List Res} (h : S e w I own) (hp : (r :: rest).Perm own) (hh : r'.holds w') (hk : ∀ k ∈ r'.keys, k ∈ r.keys ∨ w.heap.size ≤ k) (hn : r'.keys.Nodup)
    (hb : ∀ k, k < w.heap.size → k ∉ r.keys → w'.heap[k]? = w.heap[k]?) (hs : w.heap.size ≤ w'.heap.size) (ho : w'.os = w.os) (ht : w'.tape = w.tape) (hu : w'.output = w.output) : S e w' I (r' :: rest) := by
  have hkp := keys_perm hp
  simp only [keysOf_cons] at hkp
  have hnd := hkp.nodup_iff.2 h.st.nodup
  rw [List.nodup_append] at hnd
  have hrl : ∀ k ∈ keysOf rest, k < w.heap.size := fun k hk => h.st.lt (hkp.subset (List.mem_append.2 (.inr hk)))
  have hrr : ∀ k ∈ r.keys, k < w.heap.size := fun k hk => h.st.lt (hkp.subset (List.mem_append.2 (.inl hk)))
  refine ⟨⟨fun k o hI => ?_, fun q hq => ?_, fun k hk' => ?_, ?_⟩, ⟨ho.trans h.up.os, ht.trans h.up.tape, hu.trans h.up.output, Nat.le_trans h.up.size hs, fun k hk1 hk2 => ?_, h.up.le, h.up.ext, fun k hk' => ?_⟩⟩
  · have hlt := lt_of_some (h.st.ok _ _ hI)
    rw [hb k hlt (fun hr => by have := h.st.apart k (hkp.subset (List.mem_append.2 (.inl hr))); rw [this] at hI; cases hI)]
    exact h.st.ok _ _ hI
  · rcases List.mem_cons.1 hq with rfl | hq
    · exact hh
    · refine q.loc (fun k hk' => ?_) (h.st.holds q (hp.subset (List.mem_cons_of_mem _ hq)))
      have hkr : k ∈ keysOf rest := by simp only [keysOf, List.mem_flatMap]; exact ⟨q, hq, hk'⟩
      exact hb k (hrl k hkr) (fun hr => hnd.2.2 k hr k hkr rfl)
  · simp only [keysOf_cons, List.mem_append] at hk'
    rcases hk' with hk' | hk'
    · rcases hk k hk' with h1 | h1
      · exact h.st.apart k (hkp.subset (List.mem_append.2 (.inl h1)))
      · exact I_none h.st h1
    · exact h.st.apart k (hkp.subset (List.mem_append.2 (.inr hk')))
  · simp only [keysOf_cons]
    rw [List.nodup_append]
    refine ⟨hn, hnd.2.1, fun k hk1 k' hk2 => ?_⟩
    rcases hk k hk1 with h1 | h1
    · exact hnd.2.2 k h1 k' hk2
    · have := hrl k' hk2; omega
  · rw [hb k (Nat.lt_of_lt_of_le hk1 h.up.size) (fun hr => ?_)]
    · exact h.up.frame k hk1 hk2
    · rcases h.up.new k (hkp.subset (List.mem_append.2 (.inl hr))) with h1 | h1
      · exact hk2 h1
      · omega
  · simp only [keysOf_cons, List.mem_append] at hk'
    rcases hk' with hk' | hk'
    · rcases hk k hk' with h1 | h1
      · exact h.up.new k (hkp.subset (List.mem_append.2 (.inl h1)))
      · exact .inr (Nat.le_trans h.up.size h1)
    · exact h.up.new k (hkp.subset (List.mem_append.2 (.inr hk')))
/-- A resource that has no block. -/
def none_ : Res where
  keys := []
  holds _ := True
  loc _ h := h
  lt _ k hk := by simp at hk
theorem S.none_ {w : World} (h : S e w I own) : S e w I (none_ :: own) :=
  ⟨⟨h.st.ok, fun r hr => by
      rcases List.mem_cons.1 hr with rfl | hr
      · trivial
      · exact h.st.holds r hr, by simpa [K.none_] using h.st.apart, by simpa [K.none_] using h.st.nodup⟩,
   ⟨h.up.os, h.up.tape, h.up.output, h.up.size, h.up.frame, h.up.le, h.up.ext, by simpa [K.none_] using h.up.new⟩⟩
/-- A new resource. -/
theorem S.add {w w' : World} {r' : Res} (h : S e w I own) (hh : r'.holds w') (hk : ∀ k ∈ r'.keys, w.heap.size ≤ k) (hn : r'.keys.Nodup)
    (hb : ∀ k, k < w.heap.size → w'.heap[k]? = w.heap[k]?) (hs : w.heap.size ≤ w'.heap.size) (ho : w'.os = w.os) (ht : w'.tape = w.tape) (hu : w'.output = w.output) : S e w' I (r' :: own) :=
  h.none_.turn (List.Perm.refl _) hh (fun k hk' => .inr (hk k hk')) hn (fun k h1 _ => hb k h1) hs ho ht hu
/-- From now on a resource is read alone. -/
theorem S.freeze {w : World} {r : Res} {rest : List Res} (h : S e w I own) (hp : (r :: rest).Perm own) : ∃ J, I.le J ∧ (∀ k ∈ r.keys, J k = w.heap[k]?) ∧ S e w J rest := by
  have hkp := keys_perm hp
  simp only [keysOf_cons] at hkp
  have hnd := hkp.nodup_iff.2 h.st.nodup
  rw [List.nodup_append] at hnd
  have hle : I.le (fun k => if k ∈ r.keys then w.heap[k]? else I k) := fun k o hI => by
    have : k ∉ r.keys := fun hr => by have := h.st.apart k (hkp.subset (List.mem_append.2 (.inl hr))); rw [this] at hI; cases hI
    simp only [this, if_false]; exact hI
  refine ⟨fun k => if k ∈ r.keys then w.heap[k]? else I k, hle, fun k hk => by simp only [hk, if_true], ⟨⟨fun k o hk => ?_, fun q hq => h.st.holds q (hp.subset (List.mem_cons_of_mem _ hq)), fun k hk => ?_, hnd.2.1⟩,
    ⟨h.up.os, h.up.tape, h.up.output, h.up.size, h.up.frame, h.up.le.trans hle, fun k hk1 hk2 => ?_, fun k hk => h.up.new k (hkp.subset (List.mem_append.2 (.inr hk)))⟩⟩⟩
  · by_cases hr : k ∈ r.keys
    · simp only [hr, if_true] at hk; exact hk
    · simp only [hr, if_false] at hk; exact h.st.ok _ _ hk
  · have : k ∉ r.keys := fun hr => hnd.2.2 k hr k hk rfl
    simp only [this, if_false]
    exact h.st.apart k (hkp.subset (List.mem_append.2 (.inr hk)))
  · have : k ∉ r.keys := fun hr => by
      rcases h.up.new k (hkp.subset (List.mem_append.2 (.inl hr))) with h1 | h1
      · exact hk2 h1
      · omega
    simp only [this, if_false]
    exact h.up.ext k hk1 hk2
theorem perm_at {l : List Res} {r : Res} {i : Nat} (hi : l[i]? = some r) {rest : List Res} (he : l.eraseIdx i = rest) : (r :: rest).Perm l := he ▸ erase_perm l i r hi

theorem blk_RCells {w : World} {J : Imm} {g : Nat} {cs : List Value} {t : TypeId} (h : (blk g cs t).holds w) (hJ : ∀ k ∈ (blk g cs t).keys, J k = w.heap[k]?) : RCells J ⟨g, 0, none⟩ cs := fun j v hv => by
  have h' : w.heap[g]? = some (.cells cs.toArray t (0, 0)) := h
  have hg : J g = some (.cells cs.toArray t (0, 0)) := (hJ g (by simp [blk, obj])).trans h'
  rw [add_lit']
  simp [Imm.cell, hg, hv]
theorem row_Raw {w : World} {J : Imm} {A : Option Addr} {m c sz : Nat} {xs : List Value} {t : TypeId} (h : (row (.slice A m c) t sz xs).holds w) (hJ : ∀ k ∈ (row (.slice A m c) t sz xs).keys, J k = w.heap[k]?) : Raw J A m c sz xs := by
  rcases h with ⟨A', he, rfl⟩ | ⟨g, off, n, cap, cur, he, hc, hg, hn, hm, hsz, hl, htk⟩
  · simp only [Value.slice.injEq] at he
    obtain ⟨rfl, rfl, rfl⟩ := he
    exact ⟨by simp, Nat.le_refl _, by simp [maxLen], fun h => absurd h (by omega)⟩
  · simp only [Value.slice.injEq] at he
    obtain ⟨rfl, rfl, rfl⟩ := he
    refine ⟨hl, hn, hm, fun _ => ⟨_, rfl, fun j v hv => ?_⟩⟩
    have hgJ : J g = some (.cells cur t (0, 0)) := (hJ g (by simp [row, rowKeys]; omega)).trans hg
    rw [add_lit']
    simp only [Imm.cell, hgJ, Option.isSome_none, Bool.false_eq_true, if_false]
    rw [← htk, List.getElem?_take] at hv
    split at hv
    · rw [List.getElem?_drop] at hv; simpa using hv
    · cases hv

/-! Freezing, in a walk. -/
theorem Run.freezeB {rest : List Oper} {g : Nat} {cs : List Value} {t : TypeId} {own' : List Res} (i : Nat) (hi : own[i]? = some (blk g cs t)) (he : own.eraseIdx i = own')
    (K : ∀ J, I.le J → RCells J ⟨g, 0, none⟩ cs → Run P ops Q rest e n L J own') : Run P ops Q rest e n L I own := fun a w hF hS => by
  obtain ⟨J, hle, hJ, hS'⟩ := hS.freeze (perm_at hi he)
  exact K J hle (blk_RCells (own_holds hS.st hi) hJ) a w hF hS'
theorem Run.freezeR {rest : List Oper} {A : Option Addr} {m c sz : Nat} {xs : List Value} {t : TypeId} {own' : List Res} (i : Nat) (hi : own[i]? = some (row (.slice A m c) t sz xs)) (he : own.eraseIdx i = own')
    (K : ∀ J, I.le J → Raw J A m c sz xs → Run P ops Q rest e n L J own') : Run P ops Q rest e n L I own := fun a w hF hS => by
  obtain ⟨J, hle, hJ, hS'⟩ := hS.freeze (perm_at hi he)
  exact K J hle (row_Raw (own_holds hS.st hi) hJ) a w hF hS'
theorem RunC.freezeB {x : Code} {g : Nat} {cs : List Value} {t : TypeId} {own' : List Res} (i : Nat) (hi : own[i]? = some (blk g cs t)) (he : own.eraseIdx i = own')
    (K : ∀ J, I.le J → RCells J ⟨g, 0, none⟩ cs → RunC P Q x e n L J own') : RunC P Q x e n L I own := fun a w hF hS => by
  obtain ⟨J, hle, hJ, hS'⟩ := hS.freeze (perm_at hi he)
  exact K J hle (blk_RCells (own_holds hS.st hi) hJ) a w hF hS'
theorem RunC.freezeR {x : Code} {A : Option Addr} {m c sz : Nat} {xs : List Value} {t : TypeId} {own' : List Res} (i : Nat) (hi : own[i]? = some (row (.slice A m c) t sz xs)) (he : own.eraseIdx i = own')
    (K : ∀ J, I.le J → Raw J A m c sz xs → RunC P Q x e n L J own') : RunC P Q x e n L I own := fun a w hF hS => by
  obtain ⟨J, hle, hJ, hS'⟩ := hS.freeze (perm_at hi he)
  exact K J hle (row_Raw (own_holds hS.st hi) hJ) a w hF hS'
theorem RunQ.freezeB {x : Exit} {g : Nat} {cs : List Value} {t : TypeId} {own' : List Res} (i : Nat) (hi : own[i]? = some (blk g cs t)) (he : own.eraseIdx i = own')
    (K : ∀ J, I.le J → RCells J ⟨g, 0, none⟩ cs → RunQ Q x e n L J own') : RunQ Q x e n L I own := fun a w hF hS => by
  obtain ⟨J, hle, hJ, hS'⟩ := hS.freeze (perm_at hi he)
  exact K J hle (blk_RCells (own_holds hS.st hi) hJ) a w hF hS'
theorem RunQ.freezeR {x : Exit} {A : Option Addr} {m c sz : Nat} {xs : List Value} {t : TypeId} {own' : List Res} (i : Nat) (hi : own[i]? = some (row (.slice A m c) t sz xs)) (he : own.eraseIdx i = own')
    (K : ∀ J, I.le J → Raw J A m c sz xs → RunQ Q x e n L J own') : RunQ Q x e n L I own := fun a w hF hS => by
  obtain ⟨J, hle, hJ, hS'⟩ := hS.freeze (perm_at hi he)
  exact K J hle (row_Raw (own_holds hS.st hi) hJ) a w hF hS'
theorem S.nilrow {w : World} (h : S e w I own) (A : Option Addr) (t : TypeId) (sz : Nat) : S e w I (row (.slice A 0 0) t sz [] :: own) := by
  refine h.add (w' := w) (.inl ⟨A, rfl, rfl⟩) ?_ ?_ (fun k _ => rfl) (Nat.le_refl _) rfl rfl rfl <;> cases A <;> simp [row, rowKeys]
theorem Run.nilrow {rest : List Oper} (A : Option Addr) (t : TypeId) (sz : Nat) (K : Run P ops Q rest e n L I (row (.slice A 0 0) t sz [] :: own)) : Run P ops Q rest e n L I own := fun a w hF hS => K a w hF (hS.nilrow A t sz)
theorem RunC.nilrow {x : Code} (A : Option Addr) (t : TypeId) (sz : Nat) (K : RunC P Q x e n L I (row (.slice A 0 0) t sz [] :: own)) : RunC P Q x e n L I own := fun a w hF hS => K a w hF (hS.nilrow A t sz)

/-! ### Operations that turn memory -/
/-- An operation that yields a value, and a memory of which this is known. -/
theorem Run.eff {o : Oper} {rest : List Oper} {d : Nat} (hg : o.guard = none) (hd : o.dst = some d) (hn : d < n)
    (h : ∀ a w, Frm a n L → S e w I own → ∃ v w' J own', (execOp a.eval o).run P w = .ok (.value v) w' ∧ S e w' J own' ∧ Run P ops Q rest e n ((d, v) :: L) J own') : Run P ops Q (o :: rest) e n L I own := fun a w hF hS => by
  obtain ⟨v, w', J, own', hr, hS', K⟩ := h a w hF hS
  refine wpList_plain hg fun K' hK => ?_
  unfold Oper.wp
  rw [hr, Oper.upon_value, hd]
  exact hK _ _ (K _ w' (hF.put hn v) hS')
theorem Run.effU {o : Oper} {rest : List Oper} (hg : o.guard = none) (hd : o.dst = none)
    (h : ∀ a w, Frm a n L → S e w I own → ∃ w' J own', (execOp a.eval o).run P w = .ok .skip w' ∧ S e w' J own' ∧ Run P ops Q rest e n L J own') : Run P ops Q (o :: rest) e n L I own := fun a w hF hS => by
  obtain ⟨w', J, own', hr, hS', K⟩ := h a w hF hS
  refine wpList_plain hg fun K' hK => ?_
  unfold Oper.wp
  rw [hr, Oper.upon_skip, hd]
  exact hK _ _ (K _ w' hF hS')
theorem S.newBlk {w : World} (h : S e w I own) (cs : List Value) (t : TypeId) : S e (w.alloc (.cells cs.toArray t)) I (blk w.heap.size cs t :: own) :=
  h.add (heap_alloc_new w _) (fun k hk => by simp [blk, obj] at hk; omega) (by simp [blk, obj]) (fun k hk => Below.heap_alloc w _ k hk) (by simp) rfl rfl rfl
theorem Run.box {o : Oper} {rest : List Oper} {d : Nat} {t : TypeId} {x : Operand} {v : Value} {cs : List Value} (ho : o.op = .box t x) (hx : evO L x = some v) (hv : v.cells = cs.toArray) (hg : o.guard = none) (hd : o.dst = some d) (hn : d < n)
    (K : ∀ g, Run P ops Q rest e n ((d, .pointer (some ⟨g, 0, none⟩)) :: L) I (blk g cs t :: own)) : Run P ops Q (o :: rest) e n L I own :=
  Run.eff hg hd hn fun a w hF hS => ⟨_, _, I, _, by simp only [execOp, ho, hF.ev hx, Instr.box, newVar, newRow, hv, Sem.run_bind, run_newObj]; rfl, hS.newBlk cs t, K w.heap.size⟩
theorem Run.alloc {o : Oper} {rest : List Oper} {d : Nat} {t : TypeId} {z : Value} {cs : List Value} (ho : o.op = .alloc t) (hz : ∀ w, (zeroValue t).run P w = .ok z w) (hv : z.cells = cs.toArray) (hg : o.guard = none) (hd : o.dst = some d) (hn : d < n)
    (K : ∀ g, Run P ops Q rest e n ((d, .pointer (some ⟨g, 0, none⟩)) :: L) I (blk g cs t :: own)) : Run P ops Q (o :: rest) e n L I own :=
  Run.eff hg hd hn fun a w hF hS => ⟨_, _, I, _, by simp only [execOp, ho, Instr.alloc, newVar, newRow, hv, hz w, Sem.run_bind, Result.andThen_ok, run_newObj]; rfl, hS.newBlk cs t, K w.heap.size⟩
/-- A literal slice, or a make: a row of the call's own. -/
theorem S.newRow {w : World} (h : S e w I own) (cs : List Value) (t : TypeId) (m sz : Nat) (hl : cs.length = m * sz) (hm : m ≤ maxLen) : S e (w.alloc (.cells cs.toArray t)) I (row (.slice (some ⟨w.heap.size, 0, none⟩) m m) t sz cs :: own) := by
  refine h.add ?_ (fun k hk => ?_) ?_ (fun k hk => Below.heap_alloc w _ k hk) (by simp) rfl rfl rfl
  · by_cases h0 : m = 0
    · subst h0
      exact .inl ⟨_, rfl, List.eq_nil_of_length_eq_zero (by simpa using hl)⟩
    · exact .inr ⟨w.heap.size, 0, m, m, cs.toArray, rfl, by omega, heap_alloc_new w _, Nat.le_refl _, hm, by simp [hl], hl, by simp only [List.drop_zero]; exact List.take_of_length_le (by omega)⟩
  · simp only [row, rowKeys] at hk
    split at hk <;> simp at hk
    omega
  · simp only [row, rowKeys]
    split <;> simp
theorem Run.lit {o : Oper} {rest : List Oper} {d : Nat} {t el : TypeId} {m sz : Nat} {ps : Array (Nat × Operand)} {vs : List (Nat × Value)} {cs : List Value} (ho : o.op = .buildSlice t m ps) (hp : evp L ps.toList = some vs)
    (hr : ∀ w, (Instr.buildSlice t m vs.toArray).run P w = .ok (.slice (some ⟨w.heap.size, 0, none⟩) m m) (w.alloc (.cells cs.toArray el))) (hl : cs.length = m * sz) (hm : m ≤ maxLen) (hg : o.guard = none) (hd : o.dst = some d) (hn : d < n)
    (K : ∀ g, Run P ops Q rest e n ((d, .slice (some ⟨g, 0, none⟩) m m) :: L) I (row (.slice (some ⟨g, 0, none⟩) m m) el sz cs :: own)) : Run P ops Q (o :: rest) e n L I own :=
  Run.eff hg hd hn fun a w hF hS => ⟨_, _, I, _, by
    have he := evp_arr hF hp
    simp only [execOp, ho, Sem.run_bind]
    rw [he, hr w]; rfl, hS.newRow cs el m sz hl hm, K w.heap.size⟩
theorem Run.make {o : Oper} {rest : List Oper} {d : Nat} {t el : TypeId} {m : Nat} {x y : Operand} {z : Value} {k : IntKind} (ho : o.op = .makeSlice t x y) (hx : evO L x = some (.int k (m : Int))) (hy : evO L y = some (.int k (m : Int)))
    (hr : ∀ w, (Instr.makeSlice t (.int k (m : Int)) (.int k (m : Int))).run P w = .ok (.slice (some ⟨w.heap.size, 0, none⟩) m m) (w.alloc (.cells (List.replicate m z).toArray el))) (hm : m ≤ maxLen) (hg : o.guard = none) (hd : o.dst = some d) (hn : d < n)
    (K : ∀ g, Run P ops Q rest e n ((d, .slice (some ⟨g, 0, none⟩) m m) :: L) I (row (.slice (some ⟨g, 0, none⟩) m m) el 1 (List.replicate m z) :: own)) : Run P ops Q (o :: rest) e n L I own :=
  Run.eff hg hd hn fun a w hF hS => ⟨_, _, I, _, by simp only [execOp, ho, hF.ev hx, hF.ev hy, Sem.run_bind, hr w]; rfl, hS.newRow _ el m 1 (by simp) hm, K w.heap.size⟩
/-! Stores. -/
theorem storeCells_ok {g off : Nat} {t : TypeId} {cs vs : List Value} {w : World} (hw : w.heap[g]? = some (.cells cs.toArray t (0, 0))) (hl : off + vs.length ≤ cs.length) (h1 : ∀ v ∈ vs, v.oneCell' = true) :
    (storeCells ⟨g, off, none⟩ vs).run P w = .ok () (w.setRow g (cs.take off ++ vs ++ cs.drop (off + vs.length)).toArray) := by
  have := run_storeCells_at P g off t vs 0 cs.toArray w hw (by simpa using hl) h1
  simpa using this
theorem S.setBlk {w : World} {g : Nat} {t : TypeId} {cs cs' : List Value} {rest : List Res} (h : S e w I own) {i : Nat} (hi : own[i]? = some (blk g cs t)) (he : own.eraseIdx i = rest) :
    S e (w.setRow g cs'.toArray) I (blk g cs' t :: rest) := by
  have hw : w.heap[g]? = some (.cells cs.toArray t (0, 0)) := own_holds h.st hi
  refine h.turn (perm_at hi he) (setRow_heap w g _ _ t _ hw) (fun k hk => .inl hk) (by simp [blk, obj]) (fun k hk hne => setRow_other w g k _ (fun hh => hne (by simp [blk, obj, hh]))) (by simp) rfl rfl rfl
theorem run_storeAt {a : Act} {w : World} {o : Oper} {t t' : TypeId} {x y : Operand} {g off sz : Nat} {v : Value} {vs cs : List Value} (ho : o.op = .store t x y) (hx : a.eval x = .pointer (some ⟨g, off, none⟩)) (hy : a.eval y = v)
    (hz : ∀ w, (sizeOf t).run P w = .ok sz w) (hv : v.cells = vs.toArray) (hl : vs.length = sz) (h1 : ∀ v ∈ vs, v.oneCell' = true) (hw : w.heap[g]? = some (.cells cs.toArray t' (0, 0))) (hlen : off + vs.length ≤ cs.length) :
    (execOp a.eval o).run P w = .ok .skip (w.setRow g (cs.take off ++ vs ++ cs.drop (off + vs.length)).toArray) := by
  have hs := storeCells_ok (P := P) (vs := vs) (off := off) hw hlen h1
  simp only [execOp, ho, hx, hy, Instr.storeAt, Instr.sureAddr, storeVar, hv, hz w, Sem.run_bind, Sem.run_pure, Result.andThen_ok, List.size_toArray, hl, ne_eq, not_true_eq_false, if_false]
  rw [hs]
  simp [hl]
theorem Run.storeB {o : Oper} {rest : List Oper} {t t' : TypeId} {x y : Operand} {g off sz : Nat} {v : Value} {vs cs cs' : List Value} {own' : List Res} (i : Nat) (ho : o.op = .store t x y) (hx : evO L x = some (.pointer (some ⟨g, off, none⟩))) (hy : evO L y = some v)
    (hz : ∀ w, (sizeOf t).run P w = .ok sz w) (hv : v.cells = vs.toArray) (hl : vs.length = sz) (h1 : (vs.all (·.oneCell')) = true) (hi : own[i]? = some (blk g cs t')) (he : own.eraseIdx i = own') (hlen : off + vs.length ≤ cs.length)
    (hc : cs.take off ++ vs ++ cs.drop (off + vs.length) = cs') (hg : o.guard = none) (hd : o.dst = none)
    (K : Run P ops Q rest e n L I (blk g cs' t' :: own')) : Run P ops Q (o :: rest) e n L I own :=
  Run.effU hg hd fun a w hF hS => ⟨_, I, _, run_storeAt ho (hF.ev hx) (hF.ev hy) hz hv hl (fun v hv => by simpa using (List.all_eq_true.1 h1) v hv) (own_holds hS.st hi) hlen, hc ▸ hS.setBlk hi he, K⟩
/-- A store into a place of a row of the call's own. -/
theorem row_form {w : World} {A : Option Addr} {m c sz : Nat} {xs : List Value} {t : TypeId} (h : (row (.slice A m c) t sz xs).holds w) (hm : 0 < m) :
    ∃ g off cur, A = some ⟨g, off, none⟩ ∧ w.heap[g]? = some (.cells cur t (0, 0)) ∧ m ≤ c ∧ c ≤ maxLen ∧ off + c * sz ≤ cur.size ∧ xs.length = m * sz ∧ (cur.toList.drop off).take (m * sz) = xs := by
  rcases h with ⟨A', he, rfl⟩ | ⟨g, off, n, cap, cur, he, hc, hg, hn, hmm, hsz, hl, htk⟩
  · simp only [Value.slice.injEq] at he; omega
  · simp only [Value.slice.injEq] at he
    obtain ⟨rfl, rfl, rfl⟩ := he
    exact ⟨g, off, cur, rfl, hg, hn, hmm, hsz, hl, htk⟩
end
end Go.Proofs.YtmelbclhkkbmiaaGreat.K
