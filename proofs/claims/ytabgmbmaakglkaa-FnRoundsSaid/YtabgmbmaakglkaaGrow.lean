/- Worlds in which one block may have changed: what is kept. No condition. -/
import Derived.Test.YtabgmbmaakglkaaReg
namespace Go.Proofs.Ytabgmbmaakglkaa
open Go Go.RowKit

theorem grown_of {w w' : World} {row : Option Nat} (hb : Below w.heap.size w w') : w.grownBy w' row := ⟨hb.os, hb.tape, hb.output, hb.size, fun q hq _ => hb.block q hq⟩
theorem _root_.Go.World.grownBy.cell_far_ {w w' : World} {row : Option Nat} {b o : Nat} {u : Value} (hg : w.grownBy w' row) (h : w.cell? ⟨b, o, none⟩ = some u) (hne : row ≠ some b) : w'.cell? ⟨b, o, none⟩ = some u := by
  have := hg.block b (block_lt_of_cell h) (fun e => hne e.symm)
  unfold World.cell? at h ⊢
  rw [this]
  exact h
end Go.Proofs.Ytabgmbmaakglkaa
