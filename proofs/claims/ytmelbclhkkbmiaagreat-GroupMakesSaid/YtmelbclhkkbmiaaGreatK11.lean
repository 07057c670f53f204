/- Rows of the call's own that are cut, or grown by zeros; rows sorted by the library. No condition beyond those that each theorem names. -/
import Derived.Test.YtmelbclhkkbmiaaGreatK10
set_option linter.unusedVariables false
set_option linter.unusedSimpArgs false
namespace Go.Proofs.YtmelbclhkkbmiaaGreat.K
open Go Go.RowKit

section
variable {P : Program} {ops : Array Oper} {Q : Exit → Act → World → Prop} {e : Ent} {n : Nat} {L : List (Nat × Value)} {I : Imm} {own : List Res}
theorem add_map_zero (A : Option Addr) : A.map (·.add 0) = A := by cases A <;> simp [add_zero']
theorem sliceAt_hi {t el : TypeId} {A : Option Addr} {m c m' sz : Nat} {k : IntKind} (hu : ∀ w, (underlying t).run P w = .ok (.slice el) w) (hz : ∀ w, (sizeOf el).run P w = .ok sz w) (h : m' ≤ c) (w : World) :
    (Instr.sliceAt t (.slice A m c) none (some (.int k (m' : Int))) none).run P w = .ok (.slice A m' c) w := by
  simp [Instr.sliceAt, Instr.slice, Instr.sliceBounds, Instr.sliceBound, asIntOf, hu w, hz w, h]
  intro _; exact add_map_zero A
theorem row_cut {w : World} {A : Option Addr} {m c m' sz : Nat} {xs : List Value} {t : TypeId} (h : (row (.slice A m c) t sz xs).holds w) (hm : m' ≤ m) : (row (.slice A m' c) t sz (xs.take (m' * sz))).holds w := by
  rcases h with ⟨A', he, rfl⟩ | ⟨g, off, n', cap, cur, he, hcp, hg, hmc, hcm, hsz, hl, htk⟩
  · simp only [Value.slice.injEq] at he
    obtain ⟨rfl, rfl, rfl⟩ := he
    obtain rfl : m' = 0 := by omega
    exact .inl ⟨A, rfl, by simp⟩
  · simp only [Value.slice.injEq] at he
    obtain ⟨rfl, rfl, rfl⟩ := he
    have hle : m' * sz ≤ m * sz := Nat.mul_le_mul_right _ hm
    refine .inr ⟨g, off, m', c, cur, rfl, hcp, hg, by omega, hcm, hsz, by rw [List.length_take]; omega, ?_⟩
    rw [← htk, List.take_take, Nat.min_eq_left hle]
theorem S.cutR {w : World} {A : Option Addr} {m c m' sz : Nat} {xs : List Value} {t : TypeId} {own' : List Res} {i : Nat} (hS : S e w I own) (hi : own[i]? = some (row (.slice A m c) t sz xs)) (he : own.eraseIdx i = own') (hm : m' ≤ m) : S e w I (row (.slice A m' c) t sz (xs.take (m' * sz)) :: own') := by
  have hk := keys_perm (perm_at hi he)
  simp only [keysOf_cons] at hk
  have hkk : (row (.slice A m' c) t sz (xs.take (m' * sz))).keys = (row (.slice A m c) t sz xs).keys := by cases A <;> simp [row, rowKeys]
  exact hS.turn (perm_at hi he) (row_cut (own_holds hS.st hi) hm) (fun k hk' => .inl (hkk ▸ hk')) (hkk ▸ (List.nodup_append.1 (hk.nodup_iff.2 hS.st.nodup)).1) (fun _ _ _ => rfl) (Nat.le_refl _) rfl rfl rfl
theorem Run.cutR {o : Oper} {rest : List Oper} {d : Nat} {x hi : Operand} {t el t' : TypeId} {A : Option Addr} {m c m' sz : Nat} {k : IntKind} {xs : List Value} {own' : List Res} (i : Nat) (ho : o.op = .slice t x none (some hi) none) (hx : evO L x = some (.slice A m c)) (hh : evO L hi = some (.int k (m' : Int)))
    (hu : ∀ w, (underlying t).run P w = .ok (.slice el) w) (hz : ∀ w, (sizeOf el).run P w = .ok sz w) (hi' : own[i]? = some (row (.slice A m c) t' sz xs)) (he : own.eraseIdx i = own') (hm : m' ≤ m) (hmc : m' ≤ c) (hg : o.guard = none) (hd : o.dst = some d) (hn : d < n)
    (K : Run P ops Q rest e n ((d, .slice A m' c) :: L) I (row (.slice A m' c) t' sz (xs.take (m' * sz)) :: own')) : Run P ops Q (o :: rest) e n L I own :=
  Run.eff hg hd hn fun a w hF hS => by
    have hx' := hF.ev hx
    have hh' := hF.ev hh
    refine ⟨_, w, I, _, ?_, hS.cutR hi' he hm, K⟩
    simp only [execOp, ho, Option.map, hx', hh', Sem.run_bind, sliceAt_hi hu hz hmc w]; rfl
theorem y_sliceNil {o : Oper} {x hi : Operand} {t el : TypeId} {sz : Nat} {k : IntKind} (ho : o.op = .slice t x none (some hi) none) (hx : evO L x = some (.slice none 0 0)) (hh : evO L hi = some (.int k ((0 : Nat) : Int)))
    (hu : ∀ w, (underlying t).run P w = .ok (.slice el) w) (hz : ∀ w, (sizeOf el).run P w = .ok sz w) : Yld P o n L I own (.slice none 0 0) := fun a w hF hS => by
  simp only [execOp, ho, Option.map, hF.ev hx, hF.ev hh, Sem.run_bind, sliceAt_hi hu hz (Nat.le_refl 0) w]; rfl
/-- append(nil, make([]T, k)...): a new row. -/
theorem run_growNil {w : World} {t t2 ty el : TypeId} {ik : IntKind} {ti : TypeInfo} {z : Value} {sz by_ k : Nat} (hu : ∀ w, (underlying t).run P w = .ok (.slice el) w) (hu2 : ∀ w, (underlying t2).run P w = .ok (.int ik) w)
    (hz : ∀ w, (sizeOf el).run P w = .ok sz w) (hti : ∀ w, (typeInfo el).run P w = .ok ti w) (hby : ti.bytes = by_) (hzv : ∀ w, (zeroValue el).run P w = .ok z w) (hzs : z.cells.size = sz)
    (hk : 0 < k) (hbig : k * by_ ≤ 140737488355328) (h63 : k ≤ 9223372036854775807) :
    ∃ c cells, k ≤ c ∧ c ≤ maxLen ∧ cells.length = c * sz ∧ (Builtin.append_ #[t, t2] ty #[.slice none 0 0, .int .i64 (k : Int)]).run P w = .ok (.slice (some ⟨w.heap.size, 0, none⟩) k c) (w.drew.alloc (.cells (Array.mk cells) el)) := by
  have hge := grownCap_ge w k 0 el
  have hcm : grownCap w k 0 el ≤ maxLen := grownCap_le_maxLen w k 0 el (by simp only [maxLen]; omega)
  have hfit : ¬ (281474976710656 < Builtin.nextslicecap k 0 * by_) := by have := growslice_fits (need := k) (old := 0) (by omega) hbig; omega
  have hw : IntKind.i64.wrap (k : Int) = (k : Int) := IntWalk.i64_in _ (by omega)
  have h4 : ¬ ((k : Int) < 0) := by omega
  have h5 : ¬ ((281474976710656 : Int) < (k : Int) * (by_ : Int)) := by
    have : ((k * by_ : Nat) : Int) = (k : Int) * (by_ : Int) := Int.natCast_mul _ _
    omega
  have h6 : k ≠ 0 := by omega
  have h63' : ¬ (9223372036854775807 < (k : Int)) := by omega
  subst hby
  refine ⟨grownCap w k 0 el, ((if k * sz = 0 then #[] else Builtin.zeroCells z.cells k) ++ Builtin.zeroCells z.cells (grownCap w k 0 el - k)).toList, hge, hcm, ?_, ?_⟩
  · by_cases hs0 : k * sz = 0
    · rcases Nat.mul_eq_zero.1 hs0 with h | h
      · omega
      · simp [hs0, size_zeroCells, hzs, h]
    · simp only [hs0, if_false, Array.length_toList, Array.size_append, size_zeroCells, hzs, ← Nat.add_mul]
      congr 1; omega
  · by_cases hs0 : k * sz = 0 <;> simp [Builtin.append_, asInt, asIntOf, hu w, hu2 w, hz w, hti, hw, h4, h5, h6, h63', hfit, Question.forced, newRow, grownCap, hzv, hs0, Builtin.firstCells] <;> (congr 2; apply Array.ext'; simp)
theorem Run.growNil {o : Oper} {rest : List Oper} {d : Nat} {s x : Operand} {t t2 el : TypeId} {ik : IntKind} {ti : TypeInfo} {z : Value} {sz by_ k : Nat} (ho : o.op = .call { callee := .builtin .append, args := #[s, x], argTypes := #[t, t2] }) (hs : evO L s = some (.slice none 0 0)) (hv : evO L x = some (.int .i64 (k : Int)))
    (hu : ∀ w, (underlying t).run P w = .ok (.slice el) w) (hu2 : ∀ w, (underlying t2).run P w = .ok (.int ik) w) (hz : ∀ w, (sizeOf el).run P w = .ok sz w) (hti : ∀ w, (typeInfo el).run P w = .ok ti w) (hby : ti.bytes = by_) (hzv : ∀ w, (zeroValue el).run P w = .ok z w) (hzs : z.cells.size = sz)
    (hk : 0 < k) (hbig : k * by_ ≤ 140737488355328) (h63 : k ≤ 9223372036854775807) (hg : o.guard = none) (hd : o.dst = some d) (hn : d < n)
    (K : ∀ A c cells, k ≤ c → Run P ops Q rest e n ((d, .slice A k c) :: L) I (row (.slice A k c) el sz cells :: own)) : Run P ops Q (o :: rest) e n L I own :=
  Run.eff hg hd hn fun a w hF hS => by
    obtain ⟨c, cells, hc, hcm, hl, hr⟩ := run_growNil (P := P) (w := w) (ty := o.type) hu hu2 hz hti hby hzv hzs hk hbig h63
    refine ⟨.slice (some ⟨w.heap.size, 0, none⟩) k c, w.drew.alloc (.cells (Array.mk cells) el), I, row (.slice (some ⟨w.heap.size, 0, none⟩) k c) el sz (cells.take (k * sz)) :: own, ?_, ?_, K _ _ _ hc⟩
    · simp only [execOp, ho, resolve, invoke, builtin, Sem.run_bind, Sem.run_pure, Result.andThen_ok, List.map_toArray, List.map_cons, List.map_nil, hF.ev hs, hF.ev hv, hr]
    · refine hS.drew.add (w' := w.drew.alloc (.cells (Array.mk cells) el)) (.inr ⟨w.heap.size, 0, k, c, Array.mk cells, rfl, by omega, heap_alloc_new w.drew _, hc, hcm, by simp [hl], ?_, by simp⟩) ?_ ?_ (fun k' h' => Below.heap_alloc w.drew _ k' h') (by simp) rfl rfl rfl
      · rw [List.length_take, hl]; exact Nat.min_eq_left (Nat.mul_le_mul_right _ hc)
      · intro k' hk'
        simp only [row, rowKeys] at hk'
        split at hk' <;> simp at hk'
        simp; omega
      · simp only [row, rowKeys]; split <;> simp
/-- append(s, make([]T, k)...), elements of one cell: zeros. -/
theorem zeroCells_one {v : Value} (k : Nat) : Builtin.zeroCells #[v] k = (List.replicate k v).toArray := by
  apply Array.ext
  · simp [Builtin.zeroCells]
  · intro i h1 h2
    simp [Builtin.zeroCells, Nat.mod_one]
theorem run_appendZ {w : World} {t t2 ty el : TypeId} {ik : IntKind} {ti : TypeInfo} {z zv : Value} {by_ : Nat} (hu : ∀ w, (underlying t).run P w = .ok (.slice el) w) (hu2 : ∀ w, (underlying t2).run P w = .ok (.int ik) w)
    (hz : ∀ w, (sizeOf el).run P w = .ok 1 w) (hti : ∀ w, (typeInfo el).run P w = .ok ti w) (hby : ti.bytes = by_) (hzv : ∀ w, (zeroValue el).run P w = .ok z w) (hzs : z.cells = #[zv]) (h1z : zv.oneCell' = true)
    {A : Option Addr} {m c k : Nat} {xs : List Value} (hh : (row (.slice A m c) el 1 xs).holds w) (hbig : (m + k) * by_ ≤ 140737488355328) (h63 : m + k ≤ maxLen) :
    ∃ A' c' w', (Builtin.append_ #[t, t2] ty #[.slice A m c, .int .i64 (k : Int)]).run P w = .ok (.slice A' (m + k) c') w' ∧ (row (.slice A' (m + k) c') el 1 (xs ++ List.replicate k zv)).holds w' ∧
      (∀ k', k' ∈ (row (.slice A' (m + k) c') el 1 (xs ++ List.replicate k zv)).keys → k' ∈ (row (.slice A m c) el 1 xs).keys ∨ w.heap.size ≤ k') ∧ (row (.slice A' (m + k) c') el 1 (xs ++ List.replicate k zv)).keys.Nodup ∧
      (∀ k', k' < w.heap.size → k' ∉ (row (.slice A m c) el 1 xs).keys → w'.heap[k']? = w.heap[k']?) ∧ w.heap.size ≤ w'.heap.size ∧ w'.os = w.os ∧ w'.tape = w.tape ∧ w'.output = w.output := by
  have hnd : ∀ A' m' c' zs, (row (.slice A' m' c') el 1 zs).keys.Nodup := fun A' m' c' zs => by
    cases A' <;> simp only [row, rowKeys] <;> (try split) <;> simp
  have hxl : xs.length = m := by
    rcases hh with ⟨A', he, rfl⟩ | ⟨g, off, n, cap, cur, he, _, _, _, _, _, hl, _⟩
    · simp only [Value.slice.injEq] at he; obtain ⟨_, rfl, _⟩ := he; simp
    · simp only [Value.slice.injEq] at he; obtain ⟨_, rfl, _⟩ := he; simpa using hl
  have hm63 : (k : Int) ≤ 9223372036854775807 := by simp only [maxLen] at h63; omega
  have hw : IntKind.i64.wrap (k : Int) = (k : Int) := IntWalk.i64_in _ (by omega)
  have hw0 : IntKind.i64.wrap 0 = 0 := rfl
  have h4 : ¬ ((k : Int) < 0) := by omega
  have h5 : ¬ ((281474976710656 : Int) < (k : Int) * (by_ : Int)) := by
    have e1 : ((k * by_ : Nat) : Int) = (k : Int) * (by_ : Int) := Int.natCast_mul _ _
    have e2 : k * by_ ≤ (m + k) * by_ := Nat.mul_le_mul_right _ (by omega)
    omega
  have happ : (if k = 0 then (#[] : Array Value) else (List.replicate k zv).toArray) = (List.replicate k zv).toArray := by
    split
    · rename_i h; subst h; rfl
    · rfl
  have hys : ∀ v ∈ List.replicate k zv, v.oneCell' = true := fun v hv => by obtain ⟨_, rfl⟩ := List.mem_replicate.1 hv; exact h1z
  by_cases hroom : m + k ≤ c
  · rcases hh with ⟨A', he, rfl⟩ | ⟨g, off, n', cap, cur, he, hcp, hg, hmc, hcm, hsz, hl', htk⟩
    · simp only [Value.slice.injEq] at he
      obtain ⟨rfl, rfl, rfl⟩ := he
      obtain rfl : k = 0 := by omega
      refine ⟨A, 0, w, ?_, .inl ⟨A, rfl, rfl⟩, fun k' hk' => .inl hk', hnd _ _ _ _, fun _ _ _ => rfl, Nat.le_refl _, rfl, rfl, rfl⟩
      cases A <;> simp [Builtin.append_, asInt, asIntOf, hu w, hu2 w, hz w, hti, hby, hw0, storeCells]
    · simp only [Value.slice.injEq] at he
      obtain ⟨rfl, rfl, rfl⟩ := he
      have hst := run_storeCells_at P g (off + m) el (List.replicate k zv) 0 cur w hg (by simp; omega) hys
      refine ⟨some ⟨g, off, none⟩, c, w.setRow g (cur.toList.take (off + m + 0) ++ List.replicate k zv ++ cur.toList.drop (off + m + 0 + (List.replicate k zv).length)).toArray, ?_, .inr ⟨g, off, m + k, c, _, rfl, hcp, setRow_heap w g _ _ el _ hg, hroom, hcm, ?_, ?_, ?_⟩, fun k' hk' => .inl ?_, hnd _ _ _ _, fun k' _ hk' => setRow_other w g k' _ (fun hh => hk' (by simp [row, rowKeys, hh]; omega)), by simp, rfl, rfl, rfl⟩
      · have happ : (if k = 0 then (pure #[] : Sem (Array Value)) else pure (Builtin.zeroCells z.cells k)) = pure (List.replicate k zv).toArray := by
          rw [hzs, zeroCells_one]
          split
          · rename_i h; subst h; rfl
          · rfl
        by_cases hk0 : k = 0
        · subst hk0
          simp only [List.replicate_zero] at hst ⊢
          simp only [Nat.add_zero] at hroom
          simp [Builtin.append_, asInt, asIntOf, hu w, hu2 w, hz w, hti, hby, hw0, hroom, add_lit']
          have hst2 : (storeCells (⟨g, off + m, none⟩ : Addr) []).run P w = .ok () (w.setRow g cur) := by simpa using hst
          simp [hst2]
        · simp [Builtin.append_, asInt, asIntOf, hu w, hu2 w, hz w, hti, hby, hw, h4, h5, hk0, hroom, add_lit', hst, hzv, hzs, zeroCells_one]
      · simp; omega
      · simp [hxl]
      · subst htk
        apply List.ext_getElem?
        intro j
        simp only [List.length_take, List.length_drop, Array.length_toList, Nat.mul_one] at hl' hxl
        simp only [Nat.add_zero, List.getElem?_take, List.getElem?_drop, List.getElem?_append, List.length_take, List.length_drop, List.length_append, Array.length_toList, Nat.mul_one, List.length_replicate]
        have e1 : min (off + m) cur.size = off + m := by omega
        have e2 : min m (cur.size - off) = m := by omega
        by_cases k1 : j < m
        · simp [e1, e2, k1, show j < m + k by omega, show off + j < off + m by omega, show off + j < off + m + k by omega]
        · by_cases k2 : j < m + k
          · simp [e1, e2, k1, k2, show ¬ off + j < off + m by omega, show off + j < off + m + k by omega]
            rw [show off + j - (off + m) = j - m by omega]
          · have hy : (List.replicate k zv)[j - m]? = none := List.getElem?_eq_none (by simp; omega)
            simp only [e1, e2, k1, k2, if_false, hy]
      · simpa [row, rowKeys] using hk'
  · have hfit : ¬ (281474976710656 < Builtin.nextslicecap (m + k) c * by_) := by have := growslice_fits (need := m + k) (old := c) (by omega) hbig; omega
    have h63' : ¬ (9223372036854775807 < ((m : Int) + (k : Int))) := by simp only [maxLen] at h63; omega
    have hold : (Builtin.firstCells 1 m (.slice A m c)).run P w.drew = .ok xs.toArray w.drew := by
      have : Src P w 1 (.slice A m c) m xs := by
        have hS : St w (fun _ => none) [row (.slice A m c) el 1 xs] := ⟨fun k o h => (by cases h), fun r hr => (by simp at hr; subst hr; exact hh), fun _ _ => rfl, (by simpa using hnd _ _ _ _)⟩
        exact src_own (P := P) hS (i := 0) rfl
      exact this.2 w.drew rfl
    have hge := grownCap_ge w (m + k) c el
    have hcm : grownCap w (m + k) c el ≤ maxLen := grownCap_le_maxLen w (m + k) c el h63
    refine ⟨some ⟨w.heap.size, 0, none⟩, grownCap w (m + k) c el, w.drew.alloc (.cells (xs.toArray ++ (List.replicate k zv).toArray ++ Builtin.zeroCells z.cells (grownCap w (m + k) c el - (m + k))) el), ?_, .inr ⟨w.heap.size, 0, m + k, _, _, rfl, by omega, heap_alloc_new w.drew _, hge, hcm, ?_, ?_, ?_⟩, fun k' hk' => .inr ?_, hnd _ _ _ _, fun k' h' _ => Below.heap_alloc w.drew _ k' h', by simp, rfl, rfl, rfl⟩
    · subst hby
      by_cases hk0 : k = 0
      · subst hk0
        simp only [Nat.add_zero, Int.add_zero, Int.natCast_zero] at hroom h63' hfit hold ⊢
        simp [Builtin.append_, asInt, asIntOf, hu w, hu2 w, hz w, hti, hw0, hroom, h63', hfit, Question.forced, hold, newRow, grownCap, hzv]
      · simp [Builtin.append_, asInt, asIntOf, hu w, hu2 w, hz w, hti, hw, h4, h5, hk0, hroom, h63', hfit, Question.forced, hold, newRow, grownCap, hzv, hzs, zeroCells_one, Array.append_assoc]
    · simp only [Array.size_append, List.size_toArray, size_zeroCells, hzs, hxl, List.length_replicate, Nat.mul_one, Nat.zero_add, Array.size_singleton]
      exact Nat.le_of_eq (by simp; omega)
    · simp [hxl]
    · simp only [List.drop_zero, Array.toList_append, List.append_assoc, Nat.mul_one]
      rw [← List.append_assoc]
      have e1 : m + k = (xs ++ List.replicate k zv).length := by simp [hxl]
      rw [e1]
      exact List.take_left
    · simp only [row, rowKeys] at hk'
      split at hk' <;> simp at hk'
      omega
theorem Run.appendZ {o : Oper} {rest : List Oper} {d : Nat} {s x : Operand} {t t2 el : TypeId} {ik : IntKind} {ti : TypeInfo} {z zv : Value} {by_ : Nat} {A : Option Addr} {m c k : Nat} {xs : List Value} {own' : List Res} (i : Nat)
    (ho : o.op = .call { callee := .builtin .append, args := #[s, x], argTypes := #[t, t2] }) (hs : evO L s = some (.slice A m c)) (hv : evO L x = some (.int .i64 (k : Int)))
    (hu : ∀ w, (underlying t).run P w = .ok (.slice el) w) (hu2 : ∀ w, (underlying t2).run P w = .ok (.int ik) w)
    (hz : ∀ w, (sizeOf el).run P w = .ok 1 w) (hti : ∀ w, (typeInfo el).run P w = .ok ti w) (hby : ti.bytes = by_) (hzv : ∀ w, (zeroValue el).run P w = .ok z w) (hzs : z.cells = #[zv]) (h1z : zv.oneCell' = true)
    (hi : own[i]? = some (row (.slice A m c) el 1 xs)) (he : own.eraseIdx i = own') (nn : Nat) (hnn : m + k = nn) (hbig : nn * by_ ≤ 140737488355328) (h63 : nn ≤ maxLen) (hg : o.guard = none) (hd : o.dst = some d) (hn : d < n)
    (K : ∀ A' c', Run P ops Q rest e n ((d, .slice A' nn c') :: L) I (row (.slice A' nn c') el 1 (xs ++ List.replicate k zv) :: own')) : Run P ops Q (o :: rest) e n L I own :=
  Run.eff hg hd hn fun a w hF hS => by
    subst hnn
    obtain ⟨A', c', w', hr, hh, hk, hnd, hb, hsz, h2, h3, h4⟩ := run_appendZ (P := P) (ty := o.type) hu hu2 hz hti hby hzv hzs h1z (k := k) (own_holds hS.st hi) hbig h63
    refine ⟨_, w', I, _, ?_, hS.turn (perm_at hi he) hh hk hnd hb hsz h2 h3 h4, K A' c'⟩
    simp only [execOp, ho, resolve, invoke, builtin, Sem.run_bind, Sem.run_pure, Result.andThen_ok, List.map_toArray, List.map_cons, List.map_nil, hF.ev hs, hF.ev hv, hr]
end
end Go.Proofs.YtmelbclhkkbmiaaGreat.K
