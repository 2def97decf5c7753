/- The draws of passings with a place and a runner. Condition: the cursor has not come too far. -/
import Derived.Test.YtbeonigmcbipeaaDrP
import Derived.Deep.RegionLaw
namespace Go.Proofs.Ytbeonigmcbipeaa
open Go Go.RowKit

set_option maxRecDepth 100000 in
set_option maxHeartbeats 8000000 in
theorem passing_any (c n : Nat) (w : World) (h : Cur c w n) (hn : n ≤ 1000) :
    Calls Try.prog 72 #[.pointer (some ⟨c, 0, none⟩)] w fun e w' => ∃ v zs p r, e = .returned (.tuple #[v, .int .i64 p, .int .i64 r]) ∧ PasR w.heap.size w' v zs ∧ zs.length ≤ 8 ∧ (∀ z ∈ zs, DrawnP z) ∧ (-1 ≤ p ∧ p ≤ 4) ∧ (-100 ≤ r ∧ r ≤ 1000) ∧ Cur c w' (n + 400) ∧ w.grownBy w' (some c) := by
  have hlt := h.lt
  have HP := Lib.hid (passings_any c n w h (by omega))
  clear h
  go_enter Try.func72, Try.ntmps72
  go_wp2_with fail
  refine HP.out.mono ?_
  rintro e w1 ⟨v, zs, rfl, hr1, hl1, hd1, hc1, hg1⟩
  have HC1 := Lib.hid (hc1.below (below_alloc (Below.refl _ _) (.cells #[.int .i64 0, .int .i64 1, .int .i64 1, .int .i64 2, .int .i64 2, .int .i64 3, .int .i64 3, .int .i64 (-1), .int .i64 4] 3)))
  have HG1 := Lib.hid (show w.grownBy (w1.alloc (.cells #[.int .i64 0, .int .i64 1, .int .i64 1, .int .i64 2, .int .i64 2, .int .i64 3, .int .i64 3, .int .i64 (-1), .int .i64 4] 3)) (some c) from grown_trans hg1 (grown_of (below_alloc (Below.refl _ _) _)))
  have HR1 := Lib.hid (hr1.below (below_alloc (Below.refl _ _) (.cells #[.int .i64 0, .int .i64 1, .int .i64 1, .int .i64 2, .int .i64 2, .int .i64 3, .int .i64 3, .int .i64 (-1), .int .i64 4] 3)))
  have HD := Lib.hid hd1
  have hcw : c < w1.heap.size := hc1.lt
  obtain ⟨A, d, rfl, hzd, hdm⟩ := hr1.1.parts
  simp only [List.length_map] at HR1 hzd ⊢
  clear hr1 hc1 hg1 hd1 HP
  go_wp2_with fail
  refine (among_any c _ [0, 1, 1, 2, 2, 3, 3, -1, 4] _ _ HC1.out (by omega) (lit_sl w1 [0, 1, 1, 2, 2, 3, 3, -1, 4] 3 w1.heap.size 9 rfl rfl) (by simp) (by simp) (fun A' m' d' e => by simp only [Value.slice.injEq, Option.some.injEq] at e; rw [← e.1]; simp only; omega)).mono ?_
  rintro e w2 ⟨p, hp, rfl, hc2, hg2⟩
  have HPB := Lib.hid (show -1 ≤ p ∧ p ≤ 4 by simp at hp; omega)
  have HC2 := Lib.hid hc2
  have HG2 := Lib.hid (grown_trans HG1.out hg2)
  have HR2 := Lib.hid (HR1.out.keptC hlt hg2)
  clear hp hc2 hg2
  have HEND := Lib.hid (show ∀ (W : World) (b : Bool), Cur c W (n + 304) → w.grownBy W (some c) → PasR w.heap.size W (.slice A zs.length d) zs → Calls Try.prog 73 #[.pointer (some ⟨c, 0, none⟩), .slice (some ⟨W.heap.size, 0, none⟩) 3 3] (W.alloc (.cells #[.int .i64 0, .int .i64 3, .int .i64 50] 3)) fun e w' => ∃ r, e = .returned (.int .i64 r) ∧ (-100 ≤ r ∧ r ≤ 1000) ∧ PasR w.heap.size w' (.slice A zs.length d) zs ∧ Cur c w' (n + 400) ∧ w.grownBy w' (some c) from fun W b hc hg hr => by
    have hb : Below W.heap.size W (W.alloc (.cells #[.int .i64 0, .int .i64 3, .int .i64 50] 3)) := below_alloc (Below.refl _ _) _
    refine (among_any c _ [0, 3, 50] _ _ (hc.below hb) (by omega) (lit_sl W [0, 3, 50] 3 W.heap.size 3 rfl rfl) (by simp) (by simp) (fun A' m' d' e => by simp only [Value.slice.injEq, Option.some.injEq] at e; rw [← e.1]; have := hc.lt; simp only; omega)).mono ?_
    rintro e w' ⟨r, hr', rfl, hc', hg'⟩
    exact ⟨r, rfl, by simp at hr'; omega, (hr.below hb).keptC hlt hg', hc'.mono (by omega), grown_trans hg (grown_trans (grown_of hb) hg')⟩)
  by_cases h0 : zs.length = 0
  · have h0' : ((zs.length : Int) == 0) = true := by simpa using h0
    clear h0
    go_wp2_with fail
    refine (HEND.out w2 true (HC2.out.mono (by omega)) HG2.out HR2.out).mono ?_
    rintro e w3 ⟨r, rfl, hrb, hr3, hc3, hg3⟩
    have HF := Lib.hid (And.intro hr3 (And.intro hc3 hg3))
    clear hr3 hc3 hg3
    go_wp2
    go_ret3
    exact ⟨_, zs, p, r, rfl, HF.out.1, hl1, HD.out, HPB.out, hrb, HF.out.2.1, HF.out.2.2⟩
  · have h0' : ((zs.length : Int) == 0) = false := by rw [beq_eq_false_iff_ne]; omega
    go_wp2_with fail
    refine (one_any c _ 12 w2 HC2.out (by omega) (by omega)).mono ?_
    rintro e w3 ⟨b, rfl, hc3, hg3⟩
    have HC3 := Lib.hid hc3
    have HG3 := Lib.hid (grown_trans HG2.out hg3)
    have HR3 := Lib.hid (HR2.out.keptC hlt hg3)
    clear hc3 hg3
    cases b with
    | true =>
      go_wp2_with fail
      refine (HEND.out w3 true (HC3.out.mono (by omega)) HG3.out HR3.out).mono ?_
      rintro e w4 ⟨r, rfl, hrb, hr3, hc3, hg3⟩
      have HF := Lib.hid (And.intro hr3 (And.intro hc3 hg3))
      clear hr3 hc3 hg3
      go_wp2
      go_ret3
      exact ⟨_, zs, p, r, rfl, HF.out.1, hl1, HD.out, HPB.out, hrb, HF.out.2.1, HF.out.2.2⟩
    | false =>
      have HPK := Lib.hid (pick_any c _ zs.length w3.drew (HC3.out.below ((Below.refl _ _).drew)) (by omega) (by omega))
      have HLOOK := Lib.hid (show ∀ (W : World) (k : Nat) (hk : k < zs.length), w3.drew.grownBy W (some c) → ∃ g, A = some ⟨g, 0, none⟩ ∧ W.cell? ⟨g, k * 2, none⟩ = some (.int .i64 zs[k].k.runner) ∧ -100 ≤ zs[k].k.runner ∧ zs[k].k.runner ≤ 1000 from fun W k hk hg => by
        have hr := HR3.out.1.drew.kept hg (.inr fun e => by have := (HR3.out.1.lt _ e).1; omega)
        obtain ⟨g, cap, he, hbg, hgl, hcap⟩ := hr.form (by simp; omega)
        simp only [Value.slice.injEq] at he
        obtain ⟨rfl, _, rfl⟩ := he
        have hrg := hr.range (k := k) (by simpa using hk)
        simp only [List.getElem_map] at hrg
        have hd := HD.out _ (List.getElem_mem hk)
        exact ⟨g, rfl, (Pas.cells hrg).1, hd.1.1, hd.1.2⟩)
      obtain ⟨g0, hA⟩ : ∃ g0, A = some ⟨g0, 0, none⟩ := by
        obtain ⟨g0, hA, _⟩ := HLOOK.out w3.drew 0 (by omega) (World.grownBy.refl _ _)
        exact ⟨g0, hA⟩
      subst hA
      have HL2 := Lib.hid (show ∀ (W : World) (k : Nat) (hk : k < zs.length), w3.drew.grownBy W (some c) → W.cell? ⟨g0, k * 2, none⟩ = some (.int .i64 zs[k].k.runner) from fun W k hk hg => by
        obtain ⟨g, e, hcl, _⟩ := HLOOK.out W k hk hg
        simp only [Option.some.injEq, Addr.mk.injEq, and_true] at e
        rw [e]
        exact hcl)
      have hzp : 0 < zs.length := by omega
      clear h0
      go_wp2
      go_region_law (first
          | (go_simp; go_at_call 91; refine HPK.out.mono ?_; rintro e w4 ⟨x, rfl, hx1, hx2, hc4, hg4⟩; obtain ⟨k, rfl⟩ : ∃ k : Nat, x = (k : Int) := ⟨x.toNat, by omega⟩; have hkl : k < zs.length := (by omega); have hcell := HL2.out w4 k hkl hg4))
      have HF := Lib.hid (And.intro ((PasR.keptC (w := w3.drew) ⟨HR3.out.1.drew, fun z hz => ⟨Row.drew (HR3.out.2.1 z hz).1, (HR3.out.2.1 z hz).2⟩, HR3.out.2.2⟩ hlt hg4)) (And.intro hc4 (grown_trans HG3.out (show w3.grownBy w4 (some c) from ⟨hg4.os, hg4.tape, hg4.output, hg4.size, hg4.block⟩))))
      have HG4 := Lib.hid hg4
      clear hc4 hg4 hx2
      go_wp2
      go_ret3
      obtain ⟨_, _, _, hq1, hq2⟩ := HLOOK.out w4 k hkl HG4.out
      exact ⟨_, zs, p, _, rfl, HF.out.1, hl1, HD.out, HPB.out, ⟨hq1, hq2⟩, HF.out.2.1.mono (by omega), HF.out.2.2⟩
end Go.Proofs.Ytbeonigmcbipeaa
