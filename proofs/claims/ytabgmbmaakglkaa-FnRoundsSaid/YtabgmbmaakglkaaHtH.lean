/- The walks of the finishers' runners and of the program's PlacingOf. No condition. -/
import Derived.Test.YtabgmbmaakglkaaHtG
namespace Go.Proofs.Ytabgmbmaakglkaa
open Go Go.RowKit

set_option maxRecDepth 100000 in
set_option maxHeartbeats 2000000 in
theorem runnersOf_any (xs : List Fns) (v : Value) (w : World) (h : Sl (Flat Fns.I) 3 w v xs) (hl : xs.length ≤ 1048577) :
    Calls Try.prog 54 #[v] w fun e w' => ∃ r, e = .returned r ∧ Row w.heap.size 3 1 w' r ((xs.map Fns.runner).map ints) ∧ Below w.heap.size w w' := by
  obtain ⟨A, c, rfl, hc, hm, hk⟩ := h.open_
  clear h
  have HO0 := Lib.hid (show Own w 3 1 (w.alloc (.cells #[] 3)) (.slice (some ⟨w.heap.size, 0, none⟩) 0 0) [] from Own.nil (Below.refl _ _) _ rfl)
  go_enter Try.func54, Try.ntmps54
  go_wp2
  go_loopw [3, 9] (fun o i wr => ∃ k : Nat, k ≤ xs.length ∧ i = .int .i64 k ∧ Own w 3 1 wr o (((xs.take k).map Fns.runner).map ints))
    (fun _ i _ => xs.length - (intOf i).toNat)
  case atStart => exact ⟨0, Nat.zero_le _, rfl, HO0.out⟩
  case round =>
    clear HO0
    obtain ⟨k, hkl, rfl, own⟩ := hrel
    by_cases hlt : k < xs.length
    · obtain ⟨b, off, rfl, hat⟩ := flat_at hk (by omega)
      have hr := rangeAt_below (hat k hlt) own.b
      have HS := Lib.hid (show ((xs.take (k + 1)).map Fns.runner).map ints = ((xs.take k).map Fns.runner).map ints ++ [ints xs[k].runner] by rw [List.take_succ_eq_append_getElem hlt, List.map_append, List.map_append]; rfl)
      have HLL := Lib.hid (show (((xs.take k).map Fns.runner).map ints).length + 1 ≤ 2147483648 by simp; omega)
      obtain ⟨pl, hpl⟩ : ∃ pl, pl = ((xs.take k).map Fns.runner).map ints := ⟨_, rfl⟩
      rw [← hpl] at own HS HLL
      obtain ⟨x, hx⟩ : ∃ x, x = xs[k] := ⟨_, rfl⟩
      rw [← hx] at hr HS
      have HO1 := Lib.hid ((own.alloc (.cells #[.int .i64 x.runner, .int .i64 x.time, .int .i64 x.place] 82)).alloc (.cells #[.int .i64 x.runner] 3))
      have HSR := Lib.hid (show Src ((wr.alloc (.cells #[.int .i64 x.runner, .int .i64 x.time, .int .i64 x.place] 82)).alloc (.cells #[.int .i64 x.runner] 3)) 1 (some ⟨wr.heap.size + 1, 0, none⟩) 1 [ints x.runner] from Src.lit (wr.alloc (.cells #[.int .i64 x.runner, .int .i64 x.time, .int .i64 x.place] 82)) 3 (ints x.runner) (wr.heap.size + 1) (by simp) rfl (ints_one _))
      clear hpl hx own hat hk
      go_wp2_with (first
        | ((with_reducible refine at_load_ 82 ?_); refine Fns.loadI rfl _ rfl b (off + k * 3) rfl _ hr ?_)
        | (at_builtin; refine tyInt.append rfl _ _ rfl w.heap.size _ _ rfl HO1.out.1 _ 1 1 [ints x.runner] rfl HSR.out HLL.out HO1.out.2.size ?_; intro o5 w5 hrow5 hg5 hat5))
      have HB5 := Lib.hid (HO1.out.2.grown hg5 HO1.out.2.size (fun q hq => (HO1.out.1.lt q hq).1))
      go_roundw
      case rel => exact ⟨k + 1, by omega, by go_num, by rw [HS.out]; exact ⟨hrow5, HB5.out⟩⟩
      case measure => simp [intOf]; omega
    · go_wp2
      go_ret
      obtain rfl : k = xs.length := by omega
      rw [List.take_length] at own
      exact ⟨_, rfl, own.1, own.2⟩

set_option maxRecDepth 100000 in
set_option maxHeartbeats 4000000 in
theorem impl_PlacingOf (p : Ht) (k0 : HK) (w : World) (hk0 : p.k = k0) (h : p.In w) :
    Calls Try.prog 13 #[p.val] w fun e w' => ∃ r, e = .returned (.tuple #[r, .bool (goodH k0)]) ∧ Row w.heap.size 3 1 w' r ((plV k0).map ints) ∧ Below w.heap.size w w' := by
  subst hk0
  have hpl := h.len
  obtain ⟨⟨rs, ts⟩, A, n, c, B, m, d⟩ := p
  simp only at hpl
  obtain ⟨rfl, rfl⟩ := hpl
  have hW : Below w.heap.size w (w.alloc (.cells #[.slice A rs.length c, .slice B ts.length d] 28)) := below_alloc (Below.refl _ _) _
  have hcn := Ht.cellsNew w ⟨⟨rs, ts⟩, A, rs.length, c, B, ts.length, d⟩ 28
  simp only at hcn
  have h2 := h.below hW
  have HW := Lib.hid hW
  have hc0 := hcn ⟨_, Below.refl _ _⟩
  simp only at hc0
  show Calls Try.prog 13 #[.agg #[.slice A rs.length c, .slice B ts.length d]] w fun e w' => ∃ r, e = .returned (.tuple #[r, .bool (goodH ⟨rs, ts⟩)]) ∧ Row w.heap.size 3 1 w' r ((plV ⟨rs, ts⟩).map ints) ∧ Below w.heap.size w w'
  clear h hW
  have HONE := Lib.hid (fun (s : After (w.alloc (.cells #[.slice A rs.length c, .slice B ts.length d] 28))) => IsHeat_any ⟨⟨rs, ts⟩, A, rs.length, c, B, ts.length, d⟩ s.w' (h2.below s.hb))
  have HH2 := Lib.hid h2
  clear h2
  cases hg : goodH ⟨rs, ts⟩ with
  | false =>
    have HV := Lib.hid (plV_no hg)
    rw [hg] at HONE
    rw [HV.out]
    clear hg
    go_enter Try.func13, Try.ntmps13
    go_wp2_with fail
    generalize w.alloc (.cells #[.slice A rs.length c, .slice B ts.length d] 28) = W at *
    refine (HONE.out ⟨W, Below.refl _ _⟩).mono ?_
    rintro e w1 ⟨rfl, hb1⟩
    have HB := Lib.hid (step_ HW.out (Nat.le_refl _) hb1)
    go_wp2
    go_ret2
    exact ⟨_, rfl, Row.nil _ _ _ _, HB.out⟩
  | true =>
    have HV := Lib.hid (plV_fin hg)
    have HFL := Lib.hid (show (finN ⟨rs, ts⟩).length ≤ 1048577 from by rw [finN_len]; have h1 := rawI_len ⟨rs, ts⟩; have h2 := (goodH_iff.1 hg).1.2; simp only at h1 h2; omega)
    have HFIN := Lib.hid (fun (s : After (w.alloc (.cells #[.slice A rs.length c, .slice B ts.length d] 28))) => finishers_any ⟨⟨rs, ts⟩, A, rs.length, c, B, ts.length, d⟩ s.w' (HH2.out.below s.hb) hg)
    rw [hg] at HONE
    rw [HV.out]
    clear hg HV
    go_enter Try.func13, Try.ntmps13
    go_wp2_with fail
    generalize w.alloc (.cells #[.slice A rs.length c, .slice B ts.length d] 28) = W at *
    refine (HONE.out ⟨W, Below.refl _ _⟩).mono ?_
    rintro e w1 ⟨rfl, hb1⟩
    have hc1 := hcn ⟨w1, hb1⟩
    simp only at hc1
    go_wp2_with fail
    refine (HFIN.out ⟨w1, hb1⟩).mono ?_
    rintro e w2 ⟨o, rfl, row2, hb2⟩
    simp only at row2 hb2
    have HB2 := Lib.hid (step_ HW.out (Nat.le_refl _) (step_ hb1 (Nat.le_refl _) hb2))
    have HRUN := Lib.hid (runnersOf_any _ _ w2 (Sl.of_flat row2) HFL.out)
    clear row2 hb2 hb1 hc0 hc1 HONE HFIN
    go_wp2_with fail
    refine HRUN.out.mono ?_
    rintro e w3 ⟨r, rfl, row3, hb3⟩
    go_wp2
    go_ret2
    exact ⟨_, rfl, row3.mono HB2.out.size, step_ HB2.out (Nat.le_refl _) hb3⟩
end Go.Proofs.Ytabgmbmaakglkaa
