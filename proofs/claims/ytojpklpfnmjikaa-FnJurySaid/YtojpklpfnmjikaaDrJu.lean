/- The draws for the law on juries: one to be taken out, a code to be voided, best legs. No condition. -/
import Derived.Test.YtojpklpfnmjikaaDrRe
import Derived.Deep.RegionLaw
namespace Go.Proofs.Ytojpklpfnmjikaa
open Go Go.RowKit

set_option maxRecDepth 100000 in
set_option maxHeartbeats 4000000 in
theorem draw_TakeOut (v0 : Value) (m : Nat) (w : World) (h : CodeS w v0 m) :
    Calls Try.prog 46 #[v0] w fun e w' => ∃ (v : Value) (zs : List Run) (r : Int), e = .returned (.tuple #[v, .int .i64 r]) ∧ (0 ≤ r ∧ r ≤ 100) ∧ RunS w' v zs ∧ zs.length ≤ 11 ∧ Below w.heap.size w w' := by
  obtain ⟨A, cap, rfl⟩ : ∃ A cap, v0 = .slice A m cap := by obtain ⟨A, cap, e, _⟩ := h; exact ⟨A, cap, e⟩
  obtain ⟨W0, hW0⟩ : ∃ W0, w.alloc (.cells #[.slice A m cap, .int .i64 0, .int .u64 0] 87) = W0 := ⟨_, rfl⟩
  have hcur : Cur w.heap.size W0 0 := by rw [← hW0]; exact Cur.new h w.heap.size rfl
  have hc1 : w.heap.size < W0.heap.size := by rw [← hW0]; simp
  have HBL := Lib.hid (show ∀ W : World, W0.grownBy W (some w.heap.size) → Below w.heap.size w W from fun W hg => by rw [← hW0] at hg; exact below_cur hg)
  have HW := Lib.hid (codes12_any w.heap.size 0 _ hcur (by omega))
  have HW0 := Lib.hid hW0
  clear h hcur hW0
  go_enter Try.func46, Try.ntmps46
  go_upto_region 2 with fail
  rw [HW0.out]
  go_wp2_with fail
  refine HW.out.mono ?_
  rintro e w1 ⟨u, cs, rfl, hrow, hcl, hcx, hd⟩
  have HD := Lib.hid hd
  have HCS := Lib.hid hrow
  have hs1 := hd.size
  have HRU := Lib.hid (runs_any w.heap.size _ W0.heap.size u cs w1 hd.cur (by omega) hrow hc1 hcl hcx)
  clear hrow hd HW
  go_wp2_with fail
  refine HRU.out.mono ?_
  rintro e w2 ⟨v, zs, rfl, hrr, hzl, hzx, hd⟩
  replace HD := Lib.hid (HD.out.past hd)
  replace HCS := Lib.hid (HCS.out.keptC hc1 hd.grown)
  have HRR := Lib.hid hrr
  clear hrr hd HRU
  have hc2 : w.heap.size < w1.heap.size := by omega
  go_wp2_with fail
  refine (runnerOf_any w.heap.size _ w1.heap.size v zs W0 w2 HD.out (by omega) HRR.out hc2 hzl hzx).mono ?_
  rintro e w4 ⟨r, rfl, hr, hd, hg⟩
  replace HD := Lib.hid hd
  replace HCS := Lib.hid (HCS.out.keptC hc1 hg)
  replace HRR := Lib.hid (HRR.out.keptC hc2 hg)
  clear hd hg
  go_wp2_with fail
  go_ret2
  exact ⟨v, zs, r, rfl, hr, HRR.out.s, hzl, HBL.out _ HD.out.grown⟩
set_option maxRecDepth 100000 in
set_option maxHeartbeats 4000000 in
theorem code6_any (c n : Nat) (w0 w : World) (h : Dr c w0 w n) (hn : n ≤ 10000) :
    Calls Try.prog 89 #[.pointer (some ⟨c, 0, none⟩)] w fun e w' => ∃ x : Int, e = .returned (.int .i64 x) ∧ (0 ≤ x ∧ x ≤ 100) ∧ Dr c w0 w' (n + 10) ∧ w.grownBy w' (some c) := by
  have HD := Lib.hid h
  clear h
  go_enter Try.func89, Try.ntmps89
  go_wp2_with fail
  refine (one_dr 24 HD.out (by omega) (by omega)).mono ?_
  rintro e w2 ⟨b, rfl, hd, hg⟩
  have HG := Lib.hid hg
  replace HD := Lib.hid hd
  clear hd hg
  cases b with
  | true =>
    go_wp2_with fail
    refine (among_dr [0, 30, 31, 99, 100] 0 100 HD.out _ rfl _ _ rfl (by omega) _).mono ?_
    rintro e w3 ⟨x, rfl, hx, hd, hg⟩
    have HF := Lib.hid (And.intro hd (grown_trans HG.out hg))
    clear hd hg
    go_wp2_with fail
    go_ret
    exact ⟨x, rfl, hx, HF.out.1.mono (by omega), HF.out.2⟩
  | false =>
    go_wp2_with fail
    refine (among_dr [31, 32, 34, 41, 43, 45, 54, 60, 77, 99] 31 99 HD.out _ rfl _ _ rfl (by omega) _).mono ?_
    rintro e w3 ⟨x, rfl, hx, hd, hg⟩
    have HF := Lib.hid (And.intro hd (grown_trans HG.out hg))
    clear hd hg
    go_wp2_with fail
    go_ret
    exact ⟨x, rfl, by omega, HF.out.1.mono (by omega), HF.out.2⟩
set_option maxRecDepth 100000 in
theorem draw_BestLegs (v0 : Value) (m : Nat) (w : World) (h : CodeS w v0 m) :
    Calls Try.prog 49 #[v0] w fun e w' => ∃ (v : Value) (zs : List Run) (u : Value) (cs : List Int) (lim : Int), e = .returned (.tuple #[v, u, .int .i64 lim]) ∧ DrewX w w' v zs u cs lim := by
  have HA := Lib.hid (draw_ResultOrder v0 m w h)
  clear h
  go_enter Try.func49, Try.ntmps49
  go_wp2_with fail
  refine HA.out.mono ?_
  rintro e w' ⟨v, zs, u, cs, lim, rfl, hd⟩
  have HD := Lib.hid hd
  clear hd
  go_wp2_with fail
  go_ret3
  exact ⟨v, zs, u, cs, lim, rfl, HD.out⟩
set_option maxRecDepth 100000 in
set_option maxHeartbeats 8000000 in
theorem draw_VoidCode (v0 : Value) (m : Nat) (w : World) (h : CodeS w v0 m) :
    Calls Try.prog 48 #[v0] w fun e w' => ∃ (v : Value) (zs : List Run) (u : Value) (cs : List Int) (lim r : Int), e = .returned (.tuple #[v, u, .int .i64 lim, .int .i64 r]) ∧ (0 ≤ r ∧ r ≤ 100) ∧ DrewX w w' v zs u cs lim := by
  obtain ⟨A, cap, rfl⟩ : ∃ A cap, v0 = .slice A m cap := by obtain ⟨A, cap, e, _⟩ := h; exact ⟨A, cap, e⟩
  obtain ⟨W0, hW0⟩ : ∃ W0, w.alloc (.cells #[.slice A m cap, .int .i64 0, .int .u64 0] 87) = W0 := ⟨_, rfl⟩
  have hcur : Cur w.heap.size W0 0 := by rw [← hW0]; exact Cur.new h w.heap.size rfl
  have hc1 : w.heap.size < W0.heap.size := by rw [← hW0]; simp
  have HBL := Lib.hid (show ∀ W : World, W0.grownBy W (some w.heap.size) → Below w.heap.size w W from fun W hg => by rw [← hW0] at hg; exact below_cur hg)
  have HW := Lib.hid (codes12_any w.heap.size 0 _ hcur (by omega))
  have HW0 := Lib.hid hW0
  clear h hcur hW0
  go_enter Try.func48, Try.ntmps48
  go_upto_region 2 with fail
  rw [HW0.out]
  go_wp2_with fail
  refine HW.out.mono ?_
  rintro e w1 ⟨u, cs, rfl, hrow, hcl, hcx, hd⟩
  have HD := Lib.hid hd
  have HCS := Lib.hid hrow
  have hs1 := hd.size
  have HRU := Lib.hid (runs_any w.heap.size _ W0.heap.size u cs w1 hd.cur (by omega) hrow hc1 hcl hcx)
  clear hrow hd HW
  go_wp2_with fail
  refine HRU.out.mono ?_
  rintro e w2 ⟨v, zs, rfl, hrr, hzl, hzx, hd⟩
  replace HD := Lib.hid (HD.out.past hd)
  replace HCS := Lib.hid (HCS.out.keptC hc1 hd.grown)
  have HRR := Lib.hid hrr
  clear hrr hd HRU
  have hc2 : w.heap.size < w1.heap.size := by omega
  obtain ⟨B, d, rfl, hd1, hd2⟩ := HCS.out.parts
  simp only [List.length_map] at HCS hd1 ⊢
  by_cases h0 : 0 < cs.length
  rotate_left
  · have h00 : ¬ (0 : Int) < (cs.length : Int) := by omega
    go_wp2_with fail
    refine (limit15_any w.heap.size _ W0 w2 HD.out (by omega)).mono ?_
    rintro e w3 ⟨lim, rfl, hlim, hd, hg⟩
    replace HD := Lib.hid hd
    replace HCS := Lib.hid (HCS.out.keptC hc1 hg)
    replace HRR := Lib.hid (HRR.out.keptC hc2 hg)
    clear hd hg
    go_wp2_with fail
    refine (code6_any w.heap.size _ W0 w3 HD.out (by omega)).mono ?_
    rintro e w4 ⟨r, rfl, hr, hd, hg⟩
    replace HD := Lib.hid hd
    replace HCS := Lib.hid (HCS.out.keptC hc1 hg)
    replace HRR := Lib.hid (HRR.out.keptC hc2 hg)
    clear hd hg
    go_wp2_with fail
    refine bodyPost_ret (results_tmp4 rfl _ _ _) rfl ?_
    exact ⟨v, zs, _, cs, lim, r, rfl, hr, HRR.out.s, hzl, Sl.of_flat HCS.out, hcx, hlim, HBL.out _ HD.out.grown⟩
  have h00 : (0 : Int) < (cs.length : Int) := by omega
  go_wp2_with fail
  refine (one_dr 8 HD.out (by omega) (by omega)).mono ?_
  rintro e w2 ⟨b, rfl, hd, hg⟩
  replace HD := Lib.hid hd
  replace HCS := Lib.hid (HCS.out.keptC hc1 hg)
  replace HRR := Lib.hid (HRR.out.keptC hc2 hg)
  clear hd hg
  cases b with
  | true =>
    go_wp2_with fail
    refine (limit15_any w.heap.size _ W0 w2 HD.out (by omega)).mono ?_
    rintro e w3 ⟨lim, rfl, hlim, hd, hg⟩
    replace HD := Lib.hid hd
    replace HCS := Lib.hid (HCS.out.keptC hc1 hg)
    replace HRR := Lib.hid (HRR.out.keptC hc2 hg)
    clear hd hg
    go_wp2_with fail
    refine (code6_any w.heap.size _ W0 w3 HD.out (by omega)).mono ?_
    rintro e w4 ⟨r, rfl, hr, hd, hg⟩
    replace HD := Lib.hid hd
    replace HCS := Lib.hid (HCS.out.keptC hc1 hg)
    replace HRR := Lib.hid (HRR.out.keptC hc2 hg)
    clear hd hg
    go_wp2_with fail
    refine bodyPost_ret (results_tmp4 rfl _ _ _) rfl ?_
    exact ⟨v, zs, _, cs, lim, r, rfl, hr, HRR.out.s, hzl, Sl.of_flat HCS.out, hcx, hlim, HBL.out _ HD.out.grown⟩
  | false =>
    have HL := Lib.hid (limit15_any w.heap.size _ W0 w2.drew HD.out.drew (by omega))
    have hcp : w.heap.size < W0.heap.size := hc1
    have HCE := Lib.hid (show ∀ (W : World) (k : Nat) (_ : k < cs.length), w2.grownBy W (some w.heap.size) → ∃ g, B = some ⟨g, 0, none⟩ ∧ ∃ x : Int, (0 ≤ x ∧ x ≤ 100) ∧ W.cell? ⟨g, k, none⟩ = some (.int .i64 x) from fun W k hk hg => by
      have hr := HCS.out.keptC hc1 hg
      obtain ⟨g, cap, he, _, _, _⟩ := hr.form (by simp; omega)
      simp only [Value.slice.injEq, List.length_map] at he
      obtain ⟨rfl, _, rfl⟩ := he
      have r1 := hr.range (k := k) (by simpa using hk)
      simp only [List.getElem_map] at r1
      have r2 := int_at r1
      rw [Nat.mul_one] at r2
      exact ⟨g, rfl, _, hcx _ (List.getElem_mem hk), r2⟩)
    obtain ⟨g0, rfl, -⟩ := HCE.out w2 0 h0 (World.grownBy.refl _ _)
    go_wp2_with fail
    go_region_law
      (first
        | (go_simp; go_at_call 84; refine HL.out.mono ?_; rintro e w3 ⟨lim, rfl, hlim, hd, hg3⟩; have HD3 := Lib.hid hd; have HG3 := Lib.hid (show w2.grownBy w3 (some w.heap.size) from grown_trans (grown_of (Below.refl _ _).drew) hg3); clear hd hg3)
        | (go_simp; go_at_call 88; refine (pick_dr cs.length HD3.out (by omega) (by omega) (by omega)).mono ?_; rintro e w4 ⟨x, hx, rfl, hd, hg4⟩; have HD4 := Lib.hid hd; have HG4 := Lib.hid (grown_trans HG3.out hg4); have hxl : x < cs.length := (by omega); obtain ⟨g1, e1, y, hy, hcell⟩ := HCE.out w4 x hxl HG4.out; obtain rfl : g0 = g1 := (by simpa using e1); clear hd hg4))
    go_wp2_with fail
    refine bodyPost_ret (results_tmp4 rfl _ _ _) rfl ?_
    exact ⟨v, zs, _, cs, lim, y, rfl, hy, (HRR.out.keptC hc2 HG4.out).s, hzl, Sl.of_flat (HCS.out.keptC hc1 HG4.out), hcx, hlim, HBL.out _ HD4.out.grown⟩
end Go.Proofs.Ytojpklpfnmjikaa
