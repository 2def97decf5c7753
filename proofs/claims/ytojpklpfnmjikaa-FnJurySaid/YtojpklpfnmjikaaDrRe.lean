/- The draws of runs with codes, a limit and a runner. No condition. -/
import Derived.Test.YtojpklpfnmjikaaDrRu
namespace Go.Proofs.Ytojpklpfnmjikaa
open Go Go.RowKit

set_option maxRecDepth 100000 in
set_option maxHeartbeats 4000000 in
theorem runnerOf_any (c n base : Nat) (v : Value) (zs : List Run) (w0 w : World) (h : Dr c w0 w n) (hn : n ≤ 10000) (hr : RunR base w v zs) (hcb : c < base) (hl : zs.length ≤ 11) (hx : ∀ z ∈ zs, 0 ≤ z.runner ∧ z.runner ≤ 100) :
    Calls Try.prog 85 #[.pointer (some ⟨c, 0, none⟩), v] w fun e w' => ∃ x : Int, e = .returned (.int .i64 x) ∧ (0 ≤ x ∧ x ≤ 100) ∧ Dr c w0 w' (n + 10) ∧ w.grownBy w' (some c) := by
  have HD := Lib.hid h
  have HX := Lib.hid hx
  obtain ⟨A, d, rfl, hd1, hd2⟩ := hr.1.parts
  simp only [List.length_map] at hr hd1 ⊢
  have HCE := Lib.hid (show ∀ (k : Nat) (hk : k < zs.length), ∃ g, A = some ⟨g, 0, none⟩ ∧ ∀ W, w.grownBy W (some c) → W.cell? ⟨g, k * 7, none⟩ = some (.int .i64 zs[k].runner) from fun k hk => by
    obtain ⟨g, cap, he, _, _, _⟩ := hr.1.form (by simp; omega)
    simp only [Value.slice.injEq, List.length_map] at he
    obtain ⟨rfl, _, rfl⟩ := he
    refine ⟨g, rfl, fun W hW => ?_⟩
    have r1 := (hr.1.keptC hcb hW).range (k := k) (by simpa using hk)
    simp only [List.getElem_map] at r1
    exact (Run.cells r1).1)
  clear h hr hx
  go_enter Try.func85, Try.ntmps85
  by_cases h0 : zs.length = 0
  · have h0' : ((zs.length : Int) == 0) = true := by simpa using h0
    clear h0
    go_wp2_with fail
    refine (among_dr [0, 1, 3, 99] 0 99 HD.out _ rfl _ _ rfl (by omega) _).mono ?_
    rintro e w2 ⟨x, rfl, hx, hd, hg⟩
    have HF := Lib.hid (And.intro hd hg)
    clear hd hg
    go_wp2_with fail
    go_ret
    exact ⟨x, rfl, by omega, HF.out.1.mono (by omega), HF.out.2⟩
  · have h0' : ((zs.length : Int) == 0) = false := by rw [beq_eq_false_iff_ne]; omega
    go_wp2_with fail
    refine (one_dr 12 HD.out (by omega) (by omega)).mono ?_
    rintro e w2 ⟨b, rfl, hd, hg⟩
    have HG := Lib.hid hg
    replace HD := Lib.hid hd
    clear hd hg
    cases b with
    | true =>
      go_wp2_with fail
      refine (among_dr [0, 1, 3, 99] 0 99 HD.out _ rfl _ _ rfl (by omega) _).mono ?_
      rintro e w3 ⟨x, rfl, hx, hd, hg⟩
      have HF := Lib.hid (And.intro hd (grown_trans HG.out hg))
      clear hd hg
      go_wp2_with fail
      go_ret
      exact ⟨x, rfl, by omega, HF.out.1.mono (by omega), HF.out.2⟩
    | false =>
      go_wp2_with fail
      refine (pick_dr zs.length HD.out (by omega) (by omega) (by omega)).mono ?_
      rintro e w3 ⟨k, hk, rfl, hd, hg⟩
      have hkl : k < zs.length := by omega
      obtain ⟨g, rfl, hcell⟩ := HCE.out k hkl
      have hcw := hcell w3 (grown_trans HG.out hg)
      have HF := Lib.hid (And.intro hd (grown_trans HG.out hg))
      have HXK := Lib.hid (HX.out _ (List.getElem_mem hkl))
      generalize zs[k].runner = x at *
      clear hd hg hcell
      go_wp2_with fail
      go_ret
      exact ⟨x, rfl, HXK.out, HF.out.1.mono (by omega), HF.out.2⟩
/-- What the draws of runs give: runs, codes and a limit. -/
def DrewX (w w' : World) (v : Value) (zs : List Run) (u : Value) (cs : List Int) (lim : Int) : Prop :=
  RunS w' v zs ∧ zs.length ≤ 11 ∧ Sl (Flat ints) 1 w' u cs ∧ (∀ x ∈ cs, 0 ≤ x ∧ x ≤ 100) ∧ (0 ≤ lim ∧ lim ≤ 36001) ∧ Below w.heap.size w w'
set_option maxRecDepth 100000 in
set_option maxHeartbeats 4000000 in
theorem draw_ResultOrder (v0 : Value) (m : Nat) (w : World) (h : CodeS w v0 m) :
    Calls Try.prog 42 #[v0] w fun e w' => ∃ (v : Value) (zs : List Run) (u : Value) (cs : List Int) (lim : Int), e = .returned (.tuple #[v, u, .int .i64 lim]) ∧ DrewX w w' v zs u cs lim := by
  obtain ⟨A, cap, rfl⟩ : ∃ A cap, v0 = .slice A m cap := by obtain ⟨A, cap, e, _⟩ := h; exact ⟨A, cap, e⟩
  obtain ⟨W0, hW0⟩ : ∃ W0, w.alloc (.cells #[.slice A m cap, .int .i64 0, .int .u64 0] 87) = W0 := ⟨_, rfl⟩
  have hcur : Cur w.heap.size W0 0 := by rw [← hW0]; exact Cur.new h w.heap.size rfl
  have hc1 : w.heap.size < W0.heap.size := by rw [← hW0]; simp
  have HBL := Lib.hid (show ∀ W : World, W0.grownBy W (some w.heap.size) → Below w.heap.size w W from fun W hg => by rw [← hW0] at hg; exact below_cur hg)
  have HW := Lib.hid (codes12_any w.heap.size 0 _ hcur (by omega))
  have HW0 := Lib.hid hW0
  clear h hcur hW0
  go_enter Try.func42, Try.ntmps42
  go_upto_region 2 with fail
  rw [HW0.out]
  go_wp2_with fail
  refine HW.out.mono ?_
  rintro e w1 ⟨u, cs, rfl, hrow, hcl, hcx, hd⟩
  have HD := Lib.hid hd
  have HCS := Lib.hid hrow
  have hs1 := hd.size
  have HRU := Lib.hid (runs_any w.heap.size _ W0.heap.size u cs w1 hd.cur (by omega) hrow hc1 hcl hcx)
  clear hrow hd HW
  go_wp2_with fail
  refine HRU.out.mono ?_
  rintro e w2 ⟨v, zs, rfl, hrr, hzl, hzx, hd⟩
  replace HD := Lib.hid (HD.out.past hd)
  replace HCS := Lib.hid (HCS.out.keptC hc1 hd.grown)
  have HRR := Lib.hid hrr
  clear hrr hd HRU
  have hc2 : w.heap.size < w1.heap.size := by omega
  go_wp2_with fail
  refine (limit15_any w.heap.size _ W0 w2 HD.out (by omega)).mono ?_
  rintro e w3 ⟨lim, rfl, hlim, hd, hg⟩
  replace HD := Lib.hid hd
  replace HCS := Lib.hid (HCS.out.keptC hc1 hg)
  replace HRR := Lib.hid (HRR.out.keptC hc2 hg)
  clear hd hg
  go_wp2_with fail
  go_ret3
  exact ⟨v, zs, u, cs, lim, rfl, HRR.out.s, hzl, Sl.of_flat HCS.out, hcx, hlim, HBL.out _ HD.out.grown⟩
set_option maxRecDepth 100000 in
set_option maxHeartbeats 4000000 in
theorem draw_StatusOf (v0 : Value) (m : Nat) (w : World) (h : CodeS w v0 m) :
    Calls Try.prog 45 #[v0] w fun e w' => ∃ (v : Value) (zs : List Run) (u : Value) (cs : List Int) (lim r : Int), e = .returned (.tuple #[v, u, .int .i64 lim, .int .i64 r]) ∧ (0 ≤ r ∧ r ≤ 100) ∧ DrewX w w' v zs u cs lim := by
  obtain ⟨A, cap, rfl⟩ : ∃ A cap, v0 = .slice A m cap := by obtain ⟨A, cap, e, _⟩ := h; exact ⟨A, cap, e⟩
  obtain ⟨W0, hW0⟩ : ∃ W0, w.alloc (.cells #[.slice A m cap, .int .i64 0, .int .u64 0] 87) = W0 := ⟨_, rfl⟩
  have hcur : Cur w.heap.size W0 0 := by rw [← hW0]; exact Cur.new h w.heap.size rfl
  have hc1 : w.heap.size < W0.heap.size := by rw [← hW0]; simp
  have HBL := Lib.hid (show ∀ W : World, W0.grownBy W (some w.heap.size) → Below w.heap.size w W from fun W hg => by rw [← hW0] at hg; exact below_cur hg)
  have HW := Lib.hid (codes12_any w.heap.size 0 _ hcur (by omega))
  have HW0 := Lib.hid hW0
  clear h hcur hW0
  go_enter Try.func45, Try.ntmps45
  go_upto_region 2 with fail
  rw [HW0.out]
  go_wp2_with fail
  refine HW.out.mono ?_
  rintro e w1 ⟨u, cs, rfl, hrow, hcl, hcx, hd⟩
  have HD := Lib.hid hd
  have HCS := Lib.hid hrow
  have hs1 := hd.size
  have HRU := Lib.hid (runs_any w.heap.size _ W0.heap.size u cs w1 hd.cur (by omega) hrow hc1 hcl hcx)
  clear hrow hd HW
  go_wp2_with fail
  refine HRU.out.mono ?_
  rintro e w2 ⟨v, zs, rfl, hrr, hzl, hzx, hd⟩
  replace HD := Lib.hid (HD.out.past hd)
  replace HCS := Lib.hid (HCS.out.keptC hc1 hd.grown)
  have HRR := Lib.hid hrr
  clear hrr hd HRU
  have hc2 : w.heap.size < w1.heap.size := by omega
  go_wp2_with fail
  refine (limit15_any w.heap.size _ W0 w2 HD.out (by omega)).mono ?_
  rintro e w3 ⟨lim, rfl, hlim, hd, hg⟩
  replace HD := Lib.hid hd
  replace HCS := Lib.hid (HCS.out.keptC hc1 hg)
  replace HRR := Lib.hid (HRR.out.keptC hc2 hg)
  clear hd hg
  go_wp2_with fail
  refine (runnerOf_any w.heap.size _ w1.heap.size v zs W0 w3 HD.out (by omega) HRR.out hc2 hzl hzx).mono ?_
  rintro e w4 ⟨r, rfl, hr, hd, hg⟩
  replace HD := Lib.hid hd
  replace HCS := Lib.hid (HCS.out.keptC hc1 hg)
  replace HRR := Lib.hid (HRR.out.keptC hc2 hg)
  clear hd hg
  go_wp2_with fail
  refine bodyPost_ret (results_tmp4 rfl _ _ _) rfl ?_
  exact ⟨v, zs, u, cs, lim, r, rfl, hr, HRR.out.s, hzl, Sl.of_flat HCS.out, hcx, hlim, HBL.out _ HD.out.grown⟩
end Go.Proofs.Ytojpklpfnmjikaa
