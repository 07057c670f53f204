/- The library's sort of structs, over a row of the call's own. No condition beyond those that each theorem names. -/
import Derived.Test.YtmelbclhkkbmiaaGreatK11
import Derived.Shelf.SlSortCmp.NoneTotal
import Derived.Shelf.SlicesG.Cmp
set_option linter.unusedVariables false
set_option linter.unusedSimpArgs false
namespace Go.Proofs.YtmelbclhkkbmiaaGreat.K
open Go Go.RowKit Go.Sort Go.Shelf

/-- An element, and how it lies. -/
structure El {α : Type} (T : Ty α) (I : Imm) where
  cs : List Value
  x : α
  h : T.rd I cs x
theorem all_tail {α : Type} {T : Ty α} {I : Imm} {cl : List Value} {x : α} {s : List α} (h : T.all I cl (x :: s)) : T.rd I (cl.take T.sz) x ∧ T.all I (cl.drop T.sz) s := by
  have h0 := h.2 0 x rfl
  rw [Nat.zero_mul, List.drop_zero] at h0
  have h1 := all_cut h 1 (x :: s).length (Nat.le_refl _)
  rw [List.take_of_length_le (Nat.le_refl _), List.take_of_length_le (by rw [h.1]; exact Nat.le_refl _), Nat.one_mul] at h1
  exact ⟨h0, h1⟩
theorem all_els {α : Type} {T : Ty α} {I : Imm} : ∀ (s : List α) (cl : List Value), T.all I cl s → ∃ ds : List (El T I), ds.map El.x = s ∧ ds.flatMap El.cs = cl
  | [], cl, h => ⟨[], rfl, by have := h.1; simp at this; simp [this]⟩
  | x :: s, cl, h => by
    obtain ⟨h0, h1⟩ := all_tail h
    obtain ⟨ds, e1, e2⟩ := all_els s _ h1
    refine ⟨⟨cl.take T.sz, x, h0⟩ :: ds, by rw [List.map_cons, e1], ?_⟩
    rw [List.flatMap_cons, e2]
    exact List.take_append_drop _ _
theorem els_all {α : Type} {T : Ty α} {I : Imm} : ∀ ds : List (El T I), T.all I (ds.flatMap El.cs) (ds.map El.x)
  | [] => all_nil
  | d :: ds => by
    have h := all_append (all_snoc all_nil d.h) (els_all ds)
    simpa [El.cs, El.x] using h
theorem flat_get {β : Type} {f : β → List Value} {k : Nat} (hk : ∀ x, (f x).length = k) (h0 : 0 < k) : ∀ (l : List β) (t : Nat), (l.flatMap f)[t]? = (l[t / k]?).bind fun x => (f x)[t % k]?
  | [], t => by simp
  | x :: l, t => by
    rw [List.flatMap_cons]
    rcases Nat.lt_or_ge t k with h | h
    · rw [List.getElem?_append_left (by rw [hk]; exact h), Nat.div_eq_of_lt h, Nat.mod_eq_of_lt h]; simp
    · rw [List.getElem?_append_right (by rw [hk]; exact h), hk, flat_get hk h0 l, Nat.div_eq_sub_div h0 h, Nat.mod_eq_sub_mod h]; simp
theorem flatK_list {β : Type} [Inhabited β] {f : β → List Value} {k : Nat} (hk : ∀ x, (f x).length = k) (h0 : 0 < k) (d : Array β) : (flatK f k d).toList = d.toList.flatMap f := by
  apply List.ext_getElem?
  intro t
  rw [flat_get hk h0]
  rcases Nat.lt_or_ge t (d.size * k) with h | h
  · have h1 : t / k < d.size := Nat.div_lt_of_lt_mul (by rw [Nat.mul_comm]; exact h)
    have h2 : t % k < k := Nat.mod_lt _ h0
    have e := get_flatK f k d t h
    rw [getElem!_pos _ t (by simpa using h), getElem!_pos d _ h1, getElem!_pos (f d[t / k]) _ (by rw [hk]; exact h2)] at e
    rw [Array.getElem?_toList, Array.getElem?_eq_getElem (by simpa using h), e, Array.getElem?_toList, Array.getElem?_eq_getElem h1]
    simp only [Option.bind_some]
    rw [List.getElem?_eq_getElem]
  · have h1 : d.size ≤ t / k := (Nat.le_div_iff_mul_le h0).2 h
    rw [Array.getElem?_toList, Array.getElem?_eq_none (by simpa using h), Array.getElem?_toList, Array.getElem?_eq_none h1]; rfl
theorem swo_el {α : Type} {T : Ty α} {I : Imm} {c : α → α → Int} (h : SWO (ltOf c)) : SWO (ltOf fun x y : El T I => c x.x y.x) :=
  ⟨fun x => h.irrefl x.x, fun x y z => h.trans x.x y.x z.x, fun x y z => h.ntrans x.x y.x z.x⟩

theorem sortW_heap {β : Type} [Inhabited β] (f : β → List Value) (k : Nat) (w : World) (g off m : Nat) (d : Array β) (os : Array Obj) {q : Nat} (hq : q < w.heap.size) (hne : q ≠ g) : (sortWorldK f k w g off m d os).heap[q]? = w.heap[q]? := by
  simp only [sortWorldK, grow, putRowK, putRow, mapBlock, Sort.ahead]
  rw [Array.getElem?_append_left (by simpa using hq), Array.getElem?_modify, if_neg (fun h => hne h.symm)]
theorem sortW_at {β : Type} [Inhabited β] (f : β → List Value) (k : Nat) (w : World) (g off m : Nat) (d : Array β) (os : Array Obj) {cur : Array Value} {t : TypeId} (hg : w.heap[g]? = some (.cells cur t (0, 0))) :
    (sortWorldK f k w g off m d os).heap[g]? = some (.cells (putCells id off (flatK f k d) cur) t (0, 0)) := by
  have hq := lt_of_some hg
  simp only [sortWorldK, grow, putRowK, putRow, mapBlock, Sort.ahead]
  rw [Array.getElem?_append_left (by simpa using hq), Array.getElem?_modify, if_pos rfl, hg]
  rfl
theorem putCells_part (off : Nat) (F : Array Value) (cur : Array Value) (h : off + F.size ≤ cur.size) : ((putCells id off F cur).toList.drop off).take F.size = F.toList := by
  apply List.ext_getElem?
  intro j
  rw [List.getElem?_take]
  split
  · rename_i hj
    rw [List.getElem?_drop, Array.getElem?_toList, Array.getElem?_toList, Array.getElem?_eq_getElem (by simp only [putCells, Array.size_mapIdx]; omega), Array.getElem?_eq_getElem hj]
    simp only [putCells, Array.getElem_mapIdx]
    rw [if_pos (by omega), show off + j - off = j by omega, getElem!_pos F j hj]; rfl
  · rename_i hj
    rw [Array.getElem?_toList, Array.getElem?_eq_none (by omega)]

/-- slices.SortFunc over structs: a permutation of what the row held, sorted. -/
theorem con_sortK {P : Program} {ρ : Ren} {α : Type} (T : Ty α) (hz0 : 0 < T.sz) (L : SlLaysF0.n6 P ρ) (aE : ∀ w, (isAgg (ρ.t 24)).run P w = .ok true w) (zE : ∀ w, (Go.sizeOf (ρ.t 24)).run P w = .ok T.sz w) {c : α → α → Int} (hO : SWO (ltOf c)) (g : Nat)
    (eg : ∀ args w, (callFunc g args).run P w = .ok (.enter g args) w) (I : Imm)
    (hcmp : ∀ xs ys x y W, T.rd I xs x → T.rd I ys y → Calls P g #[.agg xs.toArray, .agg ys.toArray] W fun e w' => e = .returned (.int .i64 (c x y)) ∧ ∃ q os', w' = grow (W.drewN q) os')
    (A : Option Addr) (cp : Nat) (cl : List Value) (s : List α) (hs : T.all I cl s) (hsz : s.length < 4611686018427387904) :
    Con P (ρ.f 6) [.slice A s.length cp, .func (.func g) #[] #[]].toArray I [row (.slice A s.length cp) (ρ.t 24) T.sz cl] fun J o v =>
      ∃ s' cl', s'.Perm s ∧ s'.Pairwise (fun a b => ¬ c b a < 0) ∧ o = [row (.slice A s'.length cp) (ρ.t 24) T.sz cl'] ∧ v = .tuple #[] ∧ T.all J cl' s' := by
  intro w hw
  have hS : S ⟨w, I, keysOf [row (.slice A s.length cp) (ρ.t 24) T.sz cl]⟩ w I [row (.slice A s.length cp) (ρ.t 24) T.sz cl] := ⟨hw, Upd.refl hw⟩
  cases s with
  | nil =>
    refine (AnyF.slices_SortFunc_none L A cp (.func (.func g) #[] #[]) w).mono ?_
    rintro e w' ⟨rfl, rfl⟩
    exact ⟨I, _, _, rfl, hS.st, hS.up, [], cl, List.Perm.refl _, List.Pairwise.nil, rfl, rfl, hs⟩
  | cons x0 s0 =>
    obtain ⟨ds, e1, e2⟩ := all_els _ _ hs
    have hh := hw.holds _ (List.mem_singleton.2 rfl)
    have hn : ds.length = (x0 :: s0).length := by rw [← e1, List.length_map]
    obtain ⟨blk, off, cur, rfl, hg, hmc, hcm, hfit, hcl, htk⟩ := row_form hh (by simp)
    have hle : (x0 :: s0).length * T.sz ≤ cp * T.sz := Nat.mul_le_mul_right _ hmc
    obtain ⟨d0, ds0, rfl⟩ : ∃ d0 ds0, ds = d0 :: ds0 := by cases ds with | nil => simp at hn | cons a l => exact ⟨a, l, rfl⟩
    letI : Inhabited (El T I) := ⟨d0⟩
    have hk : ∀ x : El T I, (El.cs x).length = T.sz := fun x => T.len x.h
    have hblk : blk < w.heap.size := lt_of_some hg
    have hflat := flatK_list hk hz0 (d0 :: ds0).toArray
    have hfl : (flatK El.cs T.sz (d0 :: ds0).toArray).toList = cl := by rw [hflat]; exact e2
    have hH : HoldsK El.cs T.sz w blk off (d0 :: ds0).toArray := fun j hj => by
      have hj' : j < cl.length := by rw [← hfl]; simpa using hj
      have e3 : (flatK El.cs T.sz (d0 :: ds0).toArray)[j]! = cl[j] := by
        rw [getElem!_pos _ j hj]; simp only [← hfl, Array.getElem_toList]
      rw [e3]
      have h5 : cl[j]? = cur[off + j]? := by
        rw [← htk, List.getElem?_take, if_pos (by omega), List.getElem?_drop, Array.getElem?_toList]
      refine ⟨?_, ?_⟩
      · simp only [World.cell?, hg, Option.isSome_none, Bool.false_eq_true, if_false]
        rw [← h5, List.getElem?_eq_getElem hj']; rfl
      · simp [World.frozen?, hg]
    have hcm' : CmpLays P g #[] El.cs T.sz (fun x y : El T I => c x.x y.x) blk off (d0 :: ds0).toArray.size w := fun m os dk _ x y => by
      simpa using hcmp x.cs y.cs x.x y.x _ x.h y.h
    have hmain := AnyQ.slices_SortFunc L T.sz aE zE El.cs hk (fun x v hv => T.one x.h v hv) (fun x y : El T I => c x.x y.x) (swo_el hO) g #[] blk off cp (d0 :: ds0).toArray w eg hcm' hH hblk (by simpa [hn] using hsz)
    rw [show (d0 :: ds0).toArray.size = (x0 :: s0).length by simpa using hn] at hmain
    refine hmain.mono ?_
    rintro e w' ⟨rfl, d', n, os, hp, hsort, rfl⟩
    have hsize : d'.size = (x0 :: s0).length := by rw [hp.1]; simpa using hn
    have hperm : d'.toList.Perm (d0 :: ds0) := by
      have := hp.2.2
      rwa [show (x0 :: s0).length = (d0 :: ds0).toArray.size by simpa using hn.symm, Array.extract_size, ← show d'.size = (d0 :: ds0).toArray.size by rw [hsize]; simpa using hn.symm, Array.extract_size] at this
    have hS2 : S ⟨w, I, keysOf [row (.slice (some ⟨blk, off, none⟩) (x0 :: s0).length cp) (ρ.t 24) T.sz cl]⟩ (sortWorldK El.cs T.sz w blk off n d' os) I [row (.slice (some ⟨blk, off, none⟩) (d'.toList.map El.x).length cp) (ρ.t 24) T.sz (d'.toList.flatMap El.cs)] := by
      have hkk : (row (.slice (some ⟨blk, off, none⟩) (d'.toList.map El.x).length cp) (ρ.t 24) T.sz (d'.toList.flatMap El.cs)).keys = (row (.slice (some ⟨blk, off, none⟩) (x0 :: s0).length cp) (ρ.t 24) T.sz cl).keys := rfl
      refine hS.turn (List.Perm.refl _) (.inr ⟨blk, off, _, cp, _, rfl, by simp at hmc; omega, sortW_at El.cs T.sz w blk off n d' os hg, by rw [List.length_map, Array.length_toList, hsize]; exact hmc, hcm, by simp only [putCells, Array.size_mapIdx]; exact hfit, ?_, ?_⟩) (fun k hk' => .inl hk') (by simp only [row, rowKeys]; split <;> simp) (fun k hk1 hk2 => ?_) ?_ rfl rfl rfl
      · rw [← flatK_list hk hz0]; simp
      · rw [List.length_map, Array.length_toList, ← size_flatK El.cs T.sz d', putCells_part _ _ _ (by rw [size_flatK, hsize]; omega), flatK_list hk hz0]
      · refine sortW_heap El.cs T.sz w blk off n d' os hk1 (fun h => hk2 ?_)
        subst h
        simp only [row, rowKeys]
        split
        · simp at hmc; omega
        · simp
      · simp [sortWorldK, grow, putRowK, putRow, mapBlock, Sort.ahead]
    refine ⟨I, _, _, rfl, hS2.st, hS2.up, d'.toList.map El.x, d'.toList.flatMap El.cs, ?_, ?_, rfl, rfl, els_all _⟩
    · rw [← e1]; exact hperm.map _
    · rw [List.pairwise_map, List.pairwise_iff_getElem]
      intro i j hi hj hij
      have := hsort i j (Nat.zero_le _) hij (by rw [← hsize]; simpa using hj)
      rw [getElem!_pos d' j (by simpa using hj), getElem!_pos d' i (by simpa using hi)] at this
      simpa [ltOf] using this
end Go.Proofs.YtmelbclhkkbmiaaGreat.K
