/- The draws of a split and of a leg's order. No condition. -/
import Derived.Test.YtbeonigmcbipeaaDrR
namespace Go.Proofs.Ytbeonigmcbipeaa
open Go Go.RowKit

def DrewA (w : World) (e : Ending) (w' : World) : Prop := ∃ v zs r x, e = .returned (.tuple #[v, .int .i64 r, .int .i64 x]) ∧ PasS w' v zs ∧ zs.length ≤ 8 ∧ (-100000 ≤ r ∧ r ≤ 100000) ∧ (-100000 ≤ x ∧ x ≤ 100000) ∧ Below w.heap.size w w'
set_option maxRecDepth 100000 in
set_option maxHeartbeats 4000000 in
theorem draw_AddSplit (v0 : Value) (m : Nat) (w : World) (h : CodeS w v0 m) :
    Calls Try.prog 47 #[v0] w fun e w' => DrewA w e w' := by
  obtain ⟨A, cap, rfl⟩ : ∃ A cap, v0 = .slice A m cap := by obtain ⟨A, cap, e, _⟩ := h; exact ⟨A, cap, e⟩
  have hcur := Cur.new h w.heap.size rfl
  have HP := Lib.hid (passing_any w.heap.size 0 _ hcur (by omega))
  clear hcur h
  go_enter Try.func47, Try.ntmps47
  go_wp2_with fail
  refine HP.out.mono ?_
  rintro e w1 ⟨v, zs, p, r, rfl, hr, hl, hd, hp, hrr, hc, hg⟩
  have HF := Lib.hid (And.intro hr.s (And.intro hd (below_cur hg)))
  have hb : Below w1.heap.size w1 (w1.alloc (.cells #[.int .i64 1, .int .i64 300, .int .i64 700, .int .i64 1500, .int .i64 5000, .int .i64 36000, .int .i64 36001, .int .i64 0] 3)) := below_alloc (Below.refl _ _) _
  have HQ := Lib.hid (among_any w.heap.size _ [1, 300, 700, 1500, 5000, 36000, 36001, 0] _ _ (hc.below hb) (by omega) (lit_sl w1 [1, 300, 700, 1500, 5000, 36000, 36001, 0] 3 w1.heap.size 8 rfl rfl) (by simp) (by simp) (fun A' m' d' e => by simp only [Value.slice.injEq, Option.some.injEq] at e; rw [← e.1]; have := hc.lt; simp only; omega))
  have HG := Lib.hid (grown_trans hg (grown_of hb))
  have HE := Lib.hid (show ∀ W : World, (w1.alloc (.cells #[.int .i64 1, .int .i64 300, .int .i64 700, .int .i64 1500, .int .i64 5000, .int .i64 36000, .int .i64 36001, .int .i64 0] 3)).grownBy W (some w.heap.size) → PasS W v zs from fun W hW => by
    have h1 := hr.below hb
    have h2 := PasR.keptC h1 (by simp) hW
    exact h2.s)
  clear hr hd hc hg HP hb
  go_wp2_with fail
  refine HQ.out.mono ?_
  rintro e w2 ⟨x, hx, rfl, hc2, hg2⟩
  have hxb : 0 ≤ x ∧ x ≤ 36001 := by simp at hx; omega
  have HB := Lib.hid (And.intro (HE.out _ hg2) (below_cur (grown_trans HG.out hg2)))
  clear hx hc2 hg2
  go_wp2_with fail
  go_ret3
  exact ⟨_, zs, r, x, rfl, HB.out.1, hl, by omega, by omega, HB.out.2⟩
set_option maxRecDepth 100000 in
set_option maxHeartbeats 4000000 in
theorem draw_49 (v0 : Value) (m : Nat) (w : World) (h : CodeS w v0 m) :
    Calls Try.prog 49 #[v0] w fun e w' => Drew2 w e w' := by
  have HP := Lib.hid (draw_LeaderAt v0 m w h)
  clear h
  go_enter Try.func49, Try.ntmps49
  go_wp2_with fail
  refine HP.out.mono ?_
  rintro e w1 ⟨v, zs, p, rfl, hr, hl, hd, hp, hb⟩
  have HF := Lib.hid (And.intro hr (And.intro hd hb))
  clear hr hd hb HP
  go_wp2_with fail
  go_ret2
  exact ⟨_, zs, p, rfl, HF.out.1, hl, HF.out.2.1, hp, HF.out.2.2⟩
end Go.Proofs.Ytbeonigmcbipeaa
