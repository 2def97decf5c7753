/- Integers as elements of slices, under the words of the printed contracts. No condition. -/
import Derived.Test.YtabgmbmaakglkaaIdxA
import Derived.Test.YtabgmbmaakglkaaIntS
namespace Go.Proofs.Ytabgmbmaakglkaa
open Go Go.RowKit

abbrev IntE := Int
abbrev IntE.lst (x : IntE) : List Value := ints x
abbrev IntE.val (x : IntE) : Value := .int .i64 x
theorem IntE.loadImpl {w : World} {ops : Array Oper} {rest : List Oper} {o : Oper} {a : Act} {Q : Exit → Act → World → Prop} (hgd : o.guard = none) (x : Operand) (ho : o.op = .load 3 x) (b off : Nat) (hx : a.eval x = .pointer (some ⟨b, off, none⟩)) (p : IntE) (hc : w.rangeAt b off p.lst)
    (h : wpList Try.prog ops Q rest (a.put o.dst (.int .i64 p)) w) : wpList Try.prog ops Q (o :: rest) a w := by
  have hc0 := int_at hc
  refine wpList_plain hgd fun K hK => ?_
  have hrun : (Instr.loadAt 3 (.pointer (some ⟨b, off, none⟩))).run Try.prog w = .ok (.int .i64 p) w := by
    have hu := Try.underlying3
    simp [Instr.loadAt, Instr.sureAddr, loadVar, isAgg, underlying, hu, go_sem, hc0]
  unfold Oper.wp execOp
  simp only [ho, hx, hrun, Sem.run_bind, Sem.run_pure, Result.andThen_ok]
  exact hK _ _ h
end Go.Proofs.Ytabgmbmaakglkaa
