/- The law's own copies and sizes of slices of integers. No condition. -/
import Derived.Test.YtfmgnbkneccekaaInts
namespace Go.Proofs.Ytfmgnbkneccekaa
open Go Go.RowKit

/-- A guard: the operation is a load of this type. -/
theorem at_load_ (t : TypeId) {P : Program} {ops : Array Oper} {Q : Exit → Act → World → Prop} {d : Option Tmp} {x : Operand} {ty : TypeId} {pos : String} {af : Array Edge} {g : Option (Nat × Bool)} {rest : List Oper} {a : Act} {w : World}
    (h : wpList P ops Q (⟨d, .load t x, ty, pos, af, g⟩ :: rest) a w) : wpList P ops Q (⟨d, .load t x, ty, pos, af, g⟩ :: rest) a w := h
end Go.Proofs.Ytfmgnbkneccekaa
