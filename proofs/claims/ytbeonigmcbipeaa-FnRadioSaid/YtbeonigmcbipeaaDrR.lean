/- The draws of radio's rows: passings, a place and a runner or a third number. No condition. -/
import Derived.Test.YtbeonigmcbipeaaDrQ
import Derived.Test.YtbeonigmcbipeaaCode
namespace Go.Proofs.Ytbeonigmcbipeaa
open Go Go.RowKit

/-- What a draw gives. -/
def Drew3 (w : World) (e : Ending) (w' : World) : Prop := ∃ v zs p r, e = .returned (.tuple #[v, .int .i64 p, .int .i64 r]) ∧ PasS w' v zs ∧ zs.length ≤ 8 ∧ (∀ z ∈ zs, DrawnP z) ∧ (-1 ≤ p ∧ p ≤ 4) ∧ (-100000 ≤ r ∧ r ≤ 100000) ∧ Below w.heap.size w w'
def Drew2 (w : World) (e : Ending) (w' : World) : Prop := ∃ v zs p, e = .returned (.tuple #[v, .int .i64 p]) ∧ PasS w' v zs ∧ zs.length ≤ 8 ∧ (∀ z ∈ zs, DrawnP z) ∧ (-1 ≤ p ∧ p ≤ 4) ∧ Below w.heap.size w w'

set_option maxRecDepth 100000 in
set_option maxHeartbeats 4000000 in
theorem draw_RankAt (v0 : Value) (m : Nat) (w : World) (h : CodeS w v0 m) :
    Calls Try.prog 46 #[v0] w fun e w' => Drew3 w e w' := by
  obtain ⟨A, cap, rfl⟩ : ∃ A cap, v0 = .slice A m cap := by obtain ⟨A, cap, e, _⟩ := h; exact ⟨A, cap, e⟩
  have hcur := Cur.new h w.heap.size rfl
  have HP := Lib.hid (passing_any w.heap.size 0 _ hcur (by omega))
  clear hcur h
  go_enter Try.func46, Try.ntmps46
  go_wp2_with fail
  refine HP.out.mono ?_
  rintro e w1 ⟨v, zs, p, r, rfl, hr, hl, hd, hp, hrr, hc, hg⟩
  have HF := Lib.hid (And.intro (hr.s) (And.intro hd (below_cur hg)))
  clear hr hd hc hg HP
  go_wp2_with fail
  go_ret3
  exact ⟨_, zs, p, r, rfl, HF.out.1, hl, HF.out.2.1, hp, by omega, HF.out.2.2⟩
set_option maxRecDepth 100000 in
set_option maxHeartbeats 4000000 in
theorem draw_LeaderAt (v0 : Value) (m : Nat) (w : World) (h : CodeS w v0 m) :
    Calls Try.prog 45 #[v0] w fun e w' => Drew2 w e w' := by
  obtain ⟨A, cap, rfl⟩ : ∃ A cap, v0 = .slice A m cap := by obtain ⟨A, cap, e, _⟩ := h; exact ⟨A, cap, e⟩
  have hcur := Cur.new h w.heap.size rfl
  have HP := Lib.hid (passing_any w.heap.size 0 _ hcur (by omega))
  clear hcur h
  go_enter Try.func45, Try.ntmps45
  go_wp2_with fail
  refine HP.out.mono ?_
  rintro e w1 ⟨v, zs, p, r, rfl, hr, hl, hd, hp, hrr, hc, hg⟩
  have HF := Lib.hid (And.intro (hr.s) (And.intro hd (below_cur hg)))
  clear hr hd hc hg HP
  go_wp2_with fail
  go_ret2
  exact ⟨_, zs, p, rfl, HF.out.1, hl, HF.out.2.1, hp, HF.out.2.2⟩
set_option maxRecDepth 100000 in
set_option maxHeartbeats 4000000 in
theorem draw_41 (v0 : Value) (m : Nat) (w : World) (h : CodeS w v0 m) :
    Calls Try.prog 41 #[v0] w fun e w' => Drew3 w e w' := by
  have HP := Lib.hid (draw_RankAt v0 m w h)
  clear h
  go_enter Try.func41, Try.ntmps41
  go_wp2_with fail
  refine HP.out.mono ?_
  rintro e w1 ⟨v, zs, p, r, rfl, hr, hl, hd, hp, hrr, hb⟩
  have HF := Lib.hid (And.intro hr (And.intro hd hb))
  clear hr hd hb HP
  go_wp2_with fail
  go_ret3
  exact ⟨_, zs, p, r, rfl, HF.out.1, hl, HF.out.2.1, hp, by omega, HF.out.2.2⟩
theorem draw_44 (v0 : Value) (m : Nat) (w : World) (h : CodeS w v0 m) :
    Calls Try.prog 44 #[v0] w fun e w' => Drew3 w e w' := by
  have HP := Lib.hid (draw_RankAt v0 m w h)
  clear h
  go_enter Try.func44, Try.ntmps44
  go_wp2_with fail
  refine HP.out.mono ?_
  rintro e w1 ⟨v, zs, p, r, rfl, hr, hl, hd, hp, hrr, hb⟩
  have HF := Lib.hid (And.intro hr (And.intro hd hb))
  clear hr hd hb HP
  go_wp2_with fail
  go_ret3
  exact ⟨_, zs, p, r, rfl, HF.out.1, hl, HF.out.2.1, hp, by omega, HF.out.2.2⟩
set_option maxRecDepth 100000 in
set_option maxHeartbeats 4000000 in
theorem draw_NotYetAt (v0 : Value) (m : Nat) (w : World) (h : CodeS w v0 m) :
    Calls Try.prog 42 #[v0] w fun e w' => Drew3 w e w' := by
  obtain ⟨A, cap, rfl⟩ : ∃ A cap, v0 = .slice A m cap := by obtain ⟨A, cap, e, _⟩ := h; exact ⟨A, cap, e⟩
  have hcur := Cur.new h w.heap.size rfl
  have HP := Lib.hid (passing_any w.heap.size 0 _ hcur (by omega))
  clear hcur h
  go_enter Try.func42, Try.ntmps42
  go_wp2_with fail
  refine HP.out.mono ?_
  rintro e w1 ⟨v, zs, p, r, rfl, hr, hl, hd, hp, hrr, hc, hg⟩
  have HF := Lib.hid (And.intro hr.s (And.intro hd (below_cur hg)))
  have hb : Below w1.heap.size w1 (w1.alloc (.cells #[.int .i64 0, .int .i64 400, .int .i64 700, .int .i64 1000, .int .i64 1500, .int .i64 36000, .int .i64 (-1), .int .i64 36001] 3)) := below_alloc (Below.refl _ _) _
  have HQ := Lib.hid (among_any w.heap.size _ [0, 400, 700, 1000, 1500, 36000, -1, 36001] _ _ (hc.below hb) (by omega) (lit_sl w1 [0, 400, 700, 1000, 1500, 36000, -1, 36001] 3 w1.heap.size 8 rfl rfl) (by simp) (by simp) (fun A' m' d' e => by simp only [Value.slice.injEq, Option.some.injEq] at e; rw [← e.1]; have := hc.lt; simp only; omega))
  have HG := Lib.hid (grown_trans hg (grown_of hb))
  have HE := Lib.hid (show ∀ W : World, (w1.alloc (.cells #[.int .i64 0, .int .i64 400, .int .i64 700, .int .i64 1000, .int .i64 1500, .int .i64 36000, .int .i64 (-1), .int .i64 36001] 3)).grownBy W (some w.heap.size) → PasS W v zs from fun W hW => by
    have h1 := hr.below hb
    have h2 := PasR.keptC h1 (by simp) hW
    exact h2.s)
  clear hr hd hc hg HP hb
  go_wp2_with fail
  refine HQ.out.mono ?_
  rintro e w2 ⟨x, hx, rfl, hc2, hg2⟩
  have hxb : -1 ≤ x ∧ x ≤ 36001 := by simp at hx; omega
  have HB := Lib.hid (And.intro (HE.out _ hg2) (below_cur (grown_trans HG.out hg2)))
  clear hx hc2 hg2
  go_wp2_with fail
  go_ret3
  exact ⟨_, zs, p, x, rfl, HB.out.1, hl, HF.out.2.1, hp, by omega, HB.out.2⟩
end Go.Proofs.Ytbeonigmcbipeaa
