/- From a contract to what a law of the row says. No condition beyond those that each theorem names. -/
import Derived.Test.YtmelbclhkkbmiaaGreatK7
import Derived.Below
import Derived.ProofKit
set_option linter.unusedVariables false
namespace Go.Proofs.YtmelbclhkkbmiaaGreat.K
open Go Go.RowKit

/-- A law's contract, in whatever memory: it answers true, and what was there is as it was. -/
theorem law_of_con {P : Program} {f : FuncId} {args : Array Value} {W : World} (h : Con P f args (fun k => W.heap[k]?) [] (Ret1 tBool.o true)) : Calls P f args W fun e w' => e = .returned (.bool true) ∧ Below W.heap.size W w' := by
  have hs : St W (fun k => W.heap[k]?) [] := ⟨(fun k o h => h), (fun r h => absurd h (by simp)), (fun k h => absurd h (by simp)), (by simp)⟩
  refine (h W hs).mono ?_
  rintro e w' ⟨J, o, v, rfl, _, hu, h1, cs, rfl, hc⟩
  have hc' : cs = [.bool true] := hc
  subst hc'
  exact ⟨rfl, hu.os, hu.tape, hu.output, hu.size, fun k hk => hu.frame k hk (by simp)⟩
/-! Arguments, as data. -/
theorem imm_cell_w {W : World} {a : Addr} {v : Value} (h : W.cell? a = some v) : Imm.cell (fun k => W.heap[k]?) a = some v := h
theorem sl_ints {H : Type} {enc : TypeId × Value → H} {P : Program} {W : World} {base : Nat} {held : Bool} {t e : TypeId} {A : Option Addr} {n c : Nat} {d : DataW H} {ps : List MemPlace} (ht : P.underlying t = some (.slice e)) (he : P.underlying e = some (.int .i64)) (hc : P.cellsOf e = 1)
    (h : DataW.Trod enc P W base (fun _ => true) held t (.slice A n c) d ps) : ∃ xs : List Int, xs.length = n ∧ Sl tInt (fun k => W.heap[k]?) A c xs := by
  obtain ⟨fuel, hf⟩ := h
  rcases ChangeShapes.open_ints ht he hc hf with ⟨hcs, hx⟩ | ⟨a, len, cap, zs, hcs, _, hl, hm, hz, hx, hcell, hwf⟩
  · simp only [Value.cells, List.cons.injEq, and_true, Value.slice.injEq] at hcs
    obtain ⟨rfl, rfl, rfl⟩ := hcs
    exact ⟨[], rfl, sl_nil0⟩
  · simp only [Value.cells, List.cons.injEq, and_true, Value.slice.injEq] at hcs
    obtain ⟨rfl, rfl, rfl⟩ := hcs
    simp only [if_true] at hz
    refine ⟨zs.take n, by rw [List.length_take]; omega, (zs.take n).map (fun x => .int .i64 x), ⟨by simp [tInt], by rw [List.length_take]; omega, hm, fun _ => ⟨a, rfl, fun j v hv => imm_cell_w ?_⟩⟩, by simp [tInt], fun j x hx' => ?_⟩
    · rw [List.getElem?_map] at hv
      cases hj : (zs.take n)[j]? with
      | none => rw [hj] at hv; cases hv
      | some z =>
        rw [hj] at hv
        injection hv with hv
        subst hv
        have hlt := (List.getElem?_eq_some_iff.1 hj).1
        rw [List.length_take] at hlt
        rw [hcell j (by omega)]
        rw [List.getElem?_take] at hj
        split at hj
        · rw [List.getD_eq_getElem?_getD, hj]; rfl
        · cases hj
    · have hlt := (List.getElem?_eq_some_iff.1 hx').1
      have hmem : x ∈ zs := List.mem_of_mem_take (List.mem_of_getElem? hx')
      have hw := hwf x hmem
      refine ⟨?_, by simpa [Lit.wf, IntKind.min, IntKind.max, IntKind.signed, IntKind.bits] using hw⟩
      show ((List.map _ _).drop (j * 1)).take 1 = _
      rw [Nat.mul_one, List.drop_eq_getElem_cons (by simpa using hlt)]
      simp only [List.getElem_map, List.take_succ_cons, List.take_zero]
      rw [(List.getElem?_eq_some_iff.1 hx').2]
end Go.Proofs.YtmelbclhkkbmiaaGreat.K
