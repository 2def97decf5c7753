/- Rows of counts. No condition. -/
import Derived.Test.YtfmgnbkneccekaaReg
import Derived.Test.YtfmgnbkneccekaaIntS
namespace Go.Proofs.Ytfmgnbkneccekaa
open Go Go.RowKit
/-- One more at a place. -/
def bump (l : List Int) (s : Nat) : List Int := l.set s (l.getD s 0 + 1)
theorem bump_len (l : List Int) (s : Nat) : (bump l s).length = l.length := by simp [bump]
theorem bump_row {base : Nat} {w : World} {v : Value} {l : List Int} {s : Nat} {y : Int} (hs : s < (l.map ints).length) (hy : y = l.getD s 0 + 1) (h : Row base 3 1 w v ((l.map ints).set s ((l.map ints)[s].set 0 (.int .i64 y)))) : Row base 3 1 w v ((bump l s).map ints) := by
  unfold bump
  rw [List.map_set]
  refine Row.set_eq h ?_
  subst hy
  simp [ints]
/-- A guard: the operation is a store of this type, in this world. -/
theorem at_storeI_ (t : TypeId) {P : Program} {ops : Array Oper} {Q : Exit → Act → World → Prop} {d : Option Tmp} {x y : Operand} {ty : TypeId} {pos : String} {af : Array Edge} {g : Option (Nat × Bool)} {rest : List Oper} {a : Act} {w : World}
    (h : wpList P ops Q (⟨d, .store t x y, ty, pos, af, g⟩ :: rest) a w) : wpList P ops Q (⟨d, .store t x y, ty, pos, af, g⟩ :: rest) a w := h
def cntF {α : Type} (f : α → Nat) (n : Nat) (ks : List α) : List Int := ks.foldl (fun l k => bump l (f k)) (List.replicate n 0)
theorem cntF_step {α : Type} (f : α → Nat) (n : Nat) (ks : List α) (k : Nat) (h : k < ks.length) : cntF f n (ks.take (k + 1)) = bump (cntF f n (ks.take k)) (f ks[k]) := by
  unfold cntF
  rw [List.take_succ_eq_append_getElem h, List.foldl_append]
  rfl
theorem cntF_inv {α : Type} (f : α → Nat) (n : Nat) (ks : List α) : ∀ k, k ≤ ks.length → (cntF f n (ks.take k)).length = n ∧ ∀ s, 0 ≤ (cntF f n (ks.take k)).getD s 0 ∧ (cntF f n (ks.take k)).getD s 0 ≤ k
  | 0, _ => by
    refine ⟨by simp [cntF], fun s => ?_⟩
    simp only [List.take_zero, cntF, List.foldl_nil]
    rw [List.getD_eq_getElem?_getD, List.getElem?_replicate]
    split <;> simp
  | k + 1, h => by
    obtain ⟨h1, h2⟩ := cntF_inv f n ks k (by omega)
    rw [cntF_step f n ks k (by omega)]
    refine ⟨by rw [bump_len, h1], fun s => ?_⟩
    unfold bump
    have h3 := h2 s
    have h4 := h2 (f ks[k])
    rw [List.getD_eq_getElem?_getD, List.getElem?_set] at *
    split
    · split
      · simp at h4 ⊢; omega
      · simp; omega
    · omega
end Go.Proofs.Ytfmgnbkneccekaa
