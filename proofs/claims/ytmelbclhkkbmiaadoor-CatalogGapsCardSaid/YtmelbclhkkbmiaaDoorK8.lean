/- From a contract to what a law of the row says. No condition beyond those that each theorem names. -/
import Derived.Test.YtmelbclhkkbmiaaDoorK7
import Derived.Below
set_option linter.unusedVariables false
namespace Go.Proofs.YtmelbclhkkbmiaaDoor.K
open Go Go.RowKit

/-- A law's contract, in whatever memory: it answers true, and what was there is as it was. -/
theorem law_of_con {P : Program} {f : FuncId} {args : Array Value} {W : World} (h : Con P f args (fun k => W.heap[k]?) [] (Ret1 tBool.o true)) : Calls P f args W fun e w' => e = .returned (.bool true) ∧ Below W.heap.size W w' := by
  have hs : St W (fun k => W.heap[k]?) [] := ⟨(fun k o h => h), (fun r h => absurd h (by simp)), (fun k h => absurd h (by simp)), (by simp)⟩
  refine (h W hs).mono ?_
  rintro e w' ⟨J, o, v, rfl, _, hu, h1, cs, rfl, hc⟩
  have hc' : cs = [.bool true] := hc
  subst hc'
  exact ⟨rfl, hu.os, hu.tape, hu.output, hu.size, fun k hk => hu.frame k hk (by simp)⟩
end Go.Proofs.YtmelbclhkkbmiaaDoor.K
