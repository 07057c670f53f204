/- The kinds of data of the program, read off its types. Printed by a program of mine. No condition. -/
import Derived.Test.YtmelbclhkkbmiaaGreatK7
set_option linter.unusedVariables false
set_option linter.unusedSimpArgs false
set_option maxRecDepth 100000
namespace Go.Proofs.YtmelbclhkkbmiaaGreat.K
open Go Go.RowKit

structure AUnit where
  kind : Int
  label : Int
  number : Int
  load : (List UInt8)
def tUnit : Ty AUnit where
  sz := 4
  rd I cs x := ∃ A3 c3, cs = [.int .i64 x.kind, .int .i64 x.label, .int .i64 x.number, .slice A3 x.load.length c3] ∧ I64 x.kind ∧ I64 x.label ∧ I64 x.number ∧ Sl tU8 I A3 c3 x.load
  len h := by
    obtain ⟨A3, c3, rfl, h0, h1, h2, h3⟩ := h
    rfl
  mono hm h := by
    obtain ⟨A3, c3, rfl, h0, h1, h2, h3⟩ := h
    exact ⟨A3, c3, rfl, h0, h1, h2, h3.mono hm⟩
  one h v hv := by
    obtain ⟨A3, c3, rfl, h0, h1, h2, h3⟩ := h
    simp at hv
    rcases hv with rfl | rfl | rfl | rfl <;> rfl
structure ATape where
  label : Int
  cap : Int
  blocks : (List (List UInt8))
  lost : Bool
def tTape : Ty ATape where
  sz := 4
  rd I cs x := ∃ A2 c2, cs = [.int .i64 x.label, .int .i64 x.cap, .slice A2 x.blocks.length c2, .bool x.lost] ∧ I64 x.label ∧ I64 x.cap ∧ Sl (tSl tU8) I A2 c2 x.blocks
  len h := by
    obtain ⟨A2, c2, rfl, h0, h1, h2⟩ := h
    rfl
  mono hm h := by
    obtain ⟨A2, c2, rfl, h0, h1, h2⟩ := h
    exact ⟨A2, c2, rfl, h0, h1, h2.mono hm⟩
  one h v hv := by
    obtain ⟨A2, c2, rfl, h0, h1, h2⟩ := h
    simp at hv
    rcases hv with rfl | rfl | rfl | rfl <;> rfl
structure AHead where
  path : ByteArray
  version : Int
  size : Int
  frm : Int
  len : Int
  serial : Int
  sum : Int
  gone : Bool
def AHead.eqb (a b : AHead) : Bool := decide (a.path = b.path) && (decide (a.version = b.version) && (decide (a.size = b.size) && (decide (a.frm = b.frm) && (decide (a.len = b.len) && (decide (a.serial = b.serial) && (decide (a.sum = b.sum) && (decide (a.gone = b.gone) && true)))))))
def tHead : Ty AHead where
  sz := 8
  rd I cs x := cs = [.string x.path, .int .i64 x.version, .int .i64 x.size, .int .i64 x.frm, .int .i64 x.len, .int .i64 x.serial, .int .i64 x.sum, .bool x.gone] ∧ x.path.size ≤ maxLen ∧ I64 x.version ∧ I64 x.size ∧ I64 x.frm ∧ I64 x.len ∧ I64 x.serial ∧ I64 x.sum
  len h := by
    obtain ⟨rfl, h0, h1, h2, h3, h4, h5, h6⟩ := h
    rfl
  mono hm h := by
    obtain ⟨rfl, h0, h1, h2, h3, h4, h5, h6⟩ := h
    exact ⟨rfl, h0, h1, h2, h3, h4, h5, h6⟩
  one h v hv := by
    obtain ⟨rfl, h0, h1, h2, h3, h4, h5, h6⟩ := h
    simp at hv
    rcases hv with rfl | rfl | rfl | rfl | rfl | rfl | rfl | rfl <;> rfl
structure ASeal where
  number : Int
  index : Int
  data : Int
  parity : Int
  labels : (List Int)
def tSeal : Ty ASeal where
  sz := 5
  rd I cs x := ∃ A4 c4, cs = [.int .i64 x.number, .int .i64 x.index, .int .i64 x.data, .int .i64 x.parity, .slice A4 x.labels.length c4] ∧ I64 x.number ∧ I64 x.index ∧ I64 x.data ∧ I64 x.parity ∧ Sl tInt I A4 c4 x.labels
  len h := by
    obtain ⟨A4, c4, rfl, h0, h1, h2, h3, h4⟩ := h
    rfl
  mono hm h := by
    obtain ⟨A4, c4, rfl, h0, h1, h2, h3, h4⟩ := h
    exact ⟨A4, c4, rfl, h0, h1, h2, h3, h4.mono hm⟩
  one h v hv := by
    obtain ⟨A4, c4, rfl, h0, h1, h2, h3, h4⟩ := h
    simp at hv
    rcases hv with rfl | rfl | rfl | rfl | rfl <;> rfl
structure APart where
  head : AHead
  label : Int
  block : Int
def tPart : Ty APart where
  sz := 10
  rd I cs x := cs = [.string x.head.path, .int .i64 x.head.version, .int .i64 x.head.size, .int .i64 x.head.frm, .int .i64 x.head.len, .int .i64 x.head.serial, .int .i64 x.head.sum, .bool x.head.gone, .int .i64 x.label, .int .i64 x.block] ∧ x.head.path.size ≤ maxLen ∧ I64 x.head.version ∧ I64 x.head.size ∧ I64 x.head.frm ∧ I64 x.head.len ∧ I64 x.head.serial ∧ I64 x.head.sum ∧ I64 x.label ∧ I64 x.block
  len h := by
    obtain ⟨rfl, h0, h1, h2, h3, h4, h5, h6, h8, h9⟩ := h
    rfl
  mono hm h := by
    obtain ⟨rfl, h0, h1, h2, h3, h4, h5, h6, h8, h9⟩ := h
    exact ⟨rfl, h0, h1, h2, h3, h4, h5, h6, h8, h9⟩
  one h v hv := by
    obtain ⟨rfl, h0, h1, h2, h3, h4, h5, h6, h8, h9⟩ := h
    simp at hv
    rcases hv with rfl | rfl | rfl | rfl | rfl | rfl | rfl | rfl | rfl | rfl <;> rfl
structure AFile where
  path : ByteArray
  version : Int
  size : Int
  sum : Int
  serial : Int
  gone : Bool
  parts : (List APart)
def tFile : Ty AFile where
  sz := 7
  rd I cs x := ∃ A6 c6, cs = [.string x.path, .int .i64 x.version, .int .i64 x.size, .int .i64 x.sum, .int .i64 x.serial, .bool x.gone, .slice A6 x.parts.length c6] ∧ x.path.size ≤ maxLen ∧ I64 x.version ∧ I64 x.size ∧ I64 x.sum ∧ I64 x.serial ∧ Sl tPart I A6 c6 x.parts
  len h := by
    obtain ⟨A6, c6, rfl, h0, h1, h2, h3, h4, h6⟩ := h
    rfl
  mono hm h := by
    obtain ⟨A6, c6, rfl, h0, h1, h2, h3, h4, h6⟩ := h
    exact ⟨A6, c6, rfl, h0, h1, h2, h3, h4, h6.mono hm⟩
  one h v hv := by
    obtain ⟨A6, c6, rfl, h0, h1, h2, h3, h4, h6⟩ := h
    simp at hv
    rcases hv with rfl | rfl | rfl | rfl | rfl | rfl | rfl <;> rfl
structure ASpot where
  label : Int
  block : Int
def ASpot.eqb (a b : ASpot) : Bool := decide (a.label = b.label) && (decide (a.block = b.block) && true)
def tSpot : Ty ASpot where
  sz := 2
  rd I cs x := cs = [.int .i64 x.label, .int .i64 x.block] ∧ I64 x.label ∧ I64 x.block
  len h := by
    obtain ⟨rfl, h0, h1⟩ := h
    rfl
  mono hm h := by
    obtain ⟨rfl, h0, h1⟩ := h
    exact ⟨rfl, h0, h1⟩
  one h v hv := by
    obtain ⟨rfl, h0, h1⟩ := h
    simp at hv
    rcases hv with rfl | rfl <;> rfl
structure AStep where
  tape : Int
  block : (List UInt8)
def tStep : Ty AStep where
  sz := 2
  rd I cs x := ∃ A1 c1, cs = [.int .i64 x.tape, .slice A1 x.block.length c1] ∧ I64 x.tape ∧ Sl tU8 I A1 c1 x.block
  len h := by
    obtain ⟨A1, c1, rfl, h0, h1⟩ := h
    rfl
  mono hm h := by
    obtain ⟨A1, c1, rfl, h0, h1⟩ := h
    exact ⟨A1, c1, rfl, h0, h1.mono hm⟩
  one h v hv := by
    obtain ⟨A1, c1, rfl, h0, h1⟩ := h
    simp at hv
    rcases hv with rfl | rfl <;> rfl
structure APiece where
  tape : Int
  frm : Int
  len : Int
def APiece.eqb (a b : APiece) : Bool := decide (a.tape = b.tape) && (decide (a.frm = b.frm) && (decide (a.len = b.len) && true))
def tPiece : Ty APiece where
  sz := 3
  rd I cs x := cs = [.int .i64 x.tape, .int .i64 x.frm, .int .i64 x.len] ∧ I64 x.tape ∧ I64 x.frm ∧ I64 x.len
  len h := by
    obtain ⟨rfl, h0, h1, h2⟩ := h
    rfl
  mono hm h := by
    obtain ⟨rfl, h0, h1, h2⟩ := h
    exact ⟨rfl, h0, h1, h2⟩
  one h v hv := by
    obtain ⟨rfl, h0, h1, h2⟩ := h
    simp at hv
    rcases hv with rfl | rfl | rfl <;> rfl
structure ARd where
  b : (List UInt8)
  bad : Bool
def tRd : Ty ARd where
  sz := 2
  rd I cs x := ∃ A0 c0, cs = [.slice A0 x.b.length c0, .bool x.bad] ∧ Sl tU8 I A0 c0 x.b
  len h := by
    obtain ⟨A0, c0, rfl, h0⟩ := h
    rfl
  mono hm h := by
    obtain ⟨A0, c0, rfl, h0⟩ := h
    exact ⟨A0, c0, rfl, h0.mono hm⟩
  one h v hv := by
    obtain ⟨A0, c0, rfl, h0⟩ := h
    simp at hv
    rcases hv with rfl | rfl <;> rfl
end Go.Proofs.YtmelbclhkkbmiaaGreat.K
