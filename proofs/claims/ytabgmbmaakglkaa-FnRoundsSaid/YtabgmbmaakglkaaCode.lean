/- The bytes of a code, and a cursor at their start. No condition. -/
import Derived.Test.YtabgmbmaakglkaaCur
namespace Go.Proofs.Ytabgmbmaakglkaa
open Go Go.RowKit

/-- A slice of bytes. -/
def CodeS (w : World) (v : Value) (m : Nat) : Prop := ∃ (A : Option Addr) (cap : Nat), v = .slice A m cap ∧ m ≤ cap ∧ cap ≤ 9223372036854775807 ∧ (0 < m → ∃ b off, A = some ⟨b, off, none⟩ ∧ ∀ k, k < m → ∃ x : Int, 0 ≤ x ∧ x ≤ 255 ∧ w.cell? ⟨b, off + k, none⟩ = some (.int .u8 x))
theorem CodeS.below {w w' : World} {v : Value} {m : Nat} (h : CodeS w v m) (hb : Below w.heap.size w w') : CodeS w' v m := by
  obtain ⟨A, cap, h1, h2, h3, h4⟩ := h
  refine ⟨A, cap, h1, h2, h3, fun hm => ?_⟩
  obtain ⟨b, off, e, hk⟩ := h4 hm
  refine ⟨b, off, e, fun k hk' => ?_⟩
  obtain ⟨x, hx1, hx2, hx3⟩ := hk k hk'
  exact ⟨x, hx1, hx2, After.keep hx3 ⟨w', hb⟩⟩
theorem Cur.new {w : World} {v : Value} {m : Nat} (h : CodeS w v m) (c : Nat) (hc : w.heap.size = c) : Cur c (w.alloc (.cells #[v, .int .i64 0, .int .u64 0] 97)) 0 := by
  subst hc
  obtain ⟨A, cap, rfl, h2, h3, h4⟩ := h
  refine ⟨by simp, ⟨A, m, cap, by simp, h2, h3, fun hm => ?_⟩, ⟨0, Nat.le_refl _, by simp⟩, ⟨0, by omega, by omega, by simp⟩, fun o => ?_⟩
  · obtain ⟨b, off, e, hk⟩ := h4 hm
    have hb : b < w.heap.size := by
      obtain ⟨x, _, _, hx⟩ := hk 0 hm
      exact block_lt_of_cell hx
    refine ⟨b, off, e, hb, fun k hk' => ?_⟩
    obtain ⟨x, hx1, hx2, hx3⟩ := hk k hk'
    exact ⟨x, hx1, hx2, After.keep hx3 ⟨_, below_alloc (Below.refl _ _) _⟩⟩
  · exact (LitAt.new w 97 [.slice A m cap, .int .i64 0, .int .u64 0] w.heap.size rfl).frozen o
/-- What changes the cursor alone leaves all that was there. -/
theorem below_cur {w w' : World} {o : Obj} (h : (w.alloc o).grownBy w' (some w.heap.size)) : Below w.heap.size w w' :=
  (below_alloc (Below.refl _ _) o).grown h (by simp) (fun k hk => by have := Option.some.inj hk; omega)
end Go.Proofs.Ytabgmbmaakglkaa
