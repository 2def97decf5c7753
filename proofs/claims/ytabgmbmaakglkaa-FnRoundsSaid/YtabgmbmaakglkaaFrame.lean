/- What writes to some blocks alone: a frame. No condition. -/
import Derived.Test.YtabgmbmaakglkaaSl
namespace Go.Proofs.Ytabgmbmaakglkaa
open Go Go.RowKit

/-- Nothing old has turned but the blocks of S. -/
structure KeptOff (S : Nat → Prop) (w w' : World) : Prop where
  os : w'.os = w.os
  tape : w'.tape = w.tape
  output : w'.output = w.output
  size : w.heap.size ≤ w'.heap.size
  block : ∀ k, k < w.heap.size → ¬ S k → w'.heap[k]? = w.heap[k]?
theorem KeptOff.refl (S : Nat → Prop) (w : World) : KeptOff S w w := ⟨rfl, rfl, rfl, Nat.le_refl _, fun _ _ _ => rfl⟩
theorem KeptOff.trans {S : Nat → Prop} {a b c : World} (h : KeptOff S a b) (k : KeptOff S b c) : KeptOff S a c :=
  ⟨k.os.trans h.os, k.tape.trans h.tape, k.output.trans h.output, Nat.le_trans h.size k.size, fun i hi hs => (k.block i (Nat.lt_of_lt_of_le hi h.size) hs).trans (h.block i hi hs)⟩
theorem KeptOff.of_grown {S : Nat → Prop} {a b : World} {row : Option Nat} (h : a.grownBy b row) (hr : ∀ k, row = some k → S k) : KeptOff S a b :=
  ⟨h.os, h.tape, h.output, h.size, fun i hi hs => h.block i hi (fun e => hs (hr i e.symm))⟩
theorem below_kept {B : Nat} {w0 w w' : World} {S : Nat → Prop} (h : Below B w0 w) (hg : KeptOff S w w') (hS : ∀ k, S k → B ≤ k) (hB : B ≤ w.heap.size) : Below B w0 w' :=
  ⟨hg.os.trans h.os, hg.tape.trans h.tape, hg.output.trans h.output, Nat.le_trans h.size hg.size, fun k hk => (hg.block k (by omega) (fun hs => by have := hS k hs; omega)).trans (h.block k hk)⟩
theorem Row.keptOff {base : Nat} {e : TypeId} {sz : Nat} {w w' : World} {v : Value} {ys : List (List Value)} {S : Nat → Prop} (h : Row base e sz w v ys) (hg : KeptOff S w w') (hne : ∀ k, v.ownBlock = some k → ¬ S k) : Row base e sz w' v ys := by
  refine ⟨h.1, h.2.1, ?_⟩
  rcases h.2.2 with h1 | ⟨g, cap, cur, rfl, hb, hgt, hrest⟩
  · exact .inl h1
  · have hlt : g < w.heap.size := by
      rcases Nat.lt_or_ge g w.heap.size with h' | h'
      · exact h'
      · rw [Array.getElem?_eq_none h'] at hgt; cases hgt
    exact .inr ⟨g, cap, cur, rfl, hb, (hg.block g hlt (hne g rfl)).trans hgt, hrest⟩
end Go.Proofs.Ytabgmbmaakglkaa
