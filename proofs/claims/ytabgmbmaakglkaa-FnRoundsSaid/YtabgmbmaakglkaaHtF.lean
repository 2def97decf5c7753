/- The walk of the reference's PlacingOf. No condition. -/
import Derived.Test.YtabgmbmaakglkaaHtE
import Derived.Deep.RegionLaw
namespace Go.Proofs.Ytabgmbmaakglkaa
open Go Go.RowKit

theorem row_int_set {base : Nat} {e : TypeId} {w : World} {g n cap : Nat} {ys : List (List Value)} (h : Row base e 1 w (.slice (some ⟨g, 0, none⟩) n cap) ys) {k : Nat} (hk : k < ys.length) (u : Int) :
    Row base e 1 (w.setCell ⟨g, k, none⟩ (.int .i64 u)) (.slice (some ⟨g, 0, none⟩) n cap) (ys.set k (ints u)) ∧ w.grownBy (w.setCell ⟨g, k, none⟩ (.int .i64 u)) (some g) := by
  have h1 := h.stored (k := k) (j := 0) hk (by omega) (.int .i64 u)
  have hl := h.1 _ (List.getElem_mem hk)
  obtain ⟨a, ha⟩ := List.length_eq_one_iff.1 hl
  rw [ha] at h1
  simpa [ints] using h1
/-- What PlacingOf answers. -/
noncomputable def plV (h : HK) : List Int := if goodH h then (ordI h).map (rnAt h) else []
theorem plV_no {h : HK} (g : goodH h = false) : plV h = [] := by simp [plV, g]
theorem plV_yes {h : HK} (g : goodH h = true) : plV h = (ordI h).map (rnAt h) := by simp [plV, g]
theorem plV_fin {h : HK} (g : goodH h = true) : plV h = (finN h).map Fns.runner := by rw [plV_yes g, finN_runners]
theorem plV_len (h : HK) : (plV h).length ≤ 1048576 := by
  cases g : goodH h with
  | false => simp [plV_no g]
  | true => rw [plV_yes g, List.length_map]; have := ordI_len h; have := (goodH_iff.1 g).1.2; omega
theorem turned_at {f : Nat → List Value} {ys : List (List Value)} {j : Nat} (hj : j < ys.length) (h : j < (turned f ys j).length) : (turned f ys j)[j] = ys[j] := by
  apply Option.some.inj
  rw [← List.getElem?_eq_getElem h, ← List.getElem?_eq_getElem hj]
  unfold turned
  rw [List.getElem?_append_right (by simp)]
  simp

set_option maxRecDepth 100000 in
set_option maxHeartbeats 4000000 in
theorem spec_PlacingOf (p : Ht) (k0 : HK) (w : World) (hk0 : p.k = k0) (h : p.In w) :
    Calls Try.prog 11 #[p.val] w fun e w' => ∃ r, e = .returned (.tuple #[r, .bool (goodH k0)]) ∧ Row w.heap.size 3 1 w' r ((plV k0).map ints) ∧ Below w.heap.size w w' := by
  subst hk0
  have hpl := h.len
  obtain ⟨⟨rs, ts⟩, A, n, c, B, m, d⟩ := p
  simp only at hpl
  obtain ⟨rfl, rfl⟩ := hpl
  have hW : Below w.heap.size w (w.alloc (.cells #[.slice A rs.length c, .slice B ts.length d] 28)) := below_alloc (Below.refl _ _) _
  have hcn := Ht.cellsNew w ⟨⟨rs, ts⟩, A, rs.length, c, B, ts.length, d⟩ 28
  simp only at hcn
  have h2 := h.below hW
  have HSZ := Lib.hid (show (w.alloc (.cells #[.slice A rs.length c, .slice B ts.length d] 28)).heap.size = w.heap.size + 1 by simp)
  have HW := Lib.hid hW
  have hc0 := hcn ⟨_, Below.refl _ _⟩
  simp only at hc0
  show Calls Try.prog 11 #[.agg #[.slice A rs.length c, .slice B ts.length d]] w fun e w' => ∃ r, e = .returned (.tuple #[r, .bool (goodH ⟨rs, ts⟩)]) ∧ Row w.heap.size 3 1 w' r ((plV ⟨rs, ts⟩).map ints) ∧ Below w.heap.size w w'
  clear h hW
  have HONE := Lib.hid (fun (s : After (w.alloc (.cells #[.slice A rs.length c, .slice B ts.length d] 28))) => l18One_any ⟨⟨rs, ts⟩, A, rs.length, c, B, ts.length, d⟩ s.w' (h2.below s.hb))
  have HH2 := Lib.hid h2
  clear h2
  cases hg : goodH ⟨rs, ts⟩ with
  | false =>
    have HV := Lib.hid (plV_no hg)
    rw [hg] at HONE
    rw [HV.out]
    clear hg
    go_enter Try.func11, Try.ntmps11
    go_wp2_with fail
    generalize w.alloc (.cells #[.slice A rs.length c, .slice B ts.length d] 28) = W at *
    refine (HONE.out ⟨W, Below.refl _ _⟩).mono ?_
    rintro e w1 ⟨rfl, hb1⟩
    have HB := Lib.hid (step_ HW.out (Nat.le_refl _) hb1)
    have HR := Lib.hid (Row.lit_nil (base := w.heap.size) w1 3 1 HB.out.size)
    go_wp2
    go_ret2
    exact ⟨_, rfl, HR.out, below_alloc HB.out _⟩
  | true =>
    have HV := Lib.hid (plV_yes hg)
    have HOL := Lib.hid (show (ordI ⟨rs, ts⟩).length ≤ 6 from by have := ordI_len ⟨rs, ts⟩; have := (goodH_iff.1 hg).1.2; omega)
    have HOM := Lib.hid (show ∀ i ∈ ordI ⟨rs, ts⟩, i < rs.length from fun i hi => (ordI_mem.1 hi).1)
    have HRN := Lib.hid (show ∀ i (hi : i < rs.length), rnAt ⟨rs, ts⟩ i = rs[i] from fun i hi => rnAt_eq hi)
    have HORD := Lib.hid (fun (s : After (w.alloc (.cells #[.slice A rs.length c, .slice B ts.length d] 28))) => l18Order_any ⟨⟨rs, ts⟩, A, rs.length, c, B, ts.length, d⟩ s.w' (HH2.out.below s.hb) hg)
    rw [hg] at HONE
    rw [HV.out]
    obtain ⟨O, hO⟩ : ∃ O, O = ordI ⟨rs, ts⟩ := ⟨_, rfl⟩
    rw [← hO] at HORD HOL HOM ⊢
    clear hg HV hO
    go_enter Try.func11, Try.ntmps11
    go_wp2_with fail
    generalize w.alloc (.cells #[.slice A rs.length c, .slice B ts.length d] 28) = W at *
    refine (HONE.out ⟨W, Below.refl _ _⟩).mono ?_
    rintro e w1 ⟨rfl, hb1⟩
    have hc1 := hcn ⟨w1, hb1⟩
    simp only at hc1
    go_wp2_with fail
    refine (HORD.out ⟨w1, hb1⟩).mono ?_
    rintro e w2 ⟨o, rfl, row2, hb2⟩
    simp only at row2 hb2
    have hB2 := step_ hb1 (Nat.le_refl _) hb2
    obtain ⟨A2, c2, rfl, hc2, hm2⟩ := row2.parts
    simp only [ixs_len] at row2 hc2 ⊢
    have HR2 := Lib.hid (show Row W.heap.size 3 1 w2 (.slice A2 O.length c2) (turned (fun i => ints (rnAt ⟨rs, ts⟩ (O.getD i 0))) (ixs O) 0) by rw [turned_zero]; exact row2.mono hb1.size)
    have HB2 := Lib.hid hB2
    have hsl := (HH2.out.1)
    obtain ⟨A', c', hv, hcA, hmA, hkA⟩ := hsl.open_
    simp only [Value.slice.injEq] at hv
    obtain ⟨rfl, _, rfl⟩ := hv
    clear row2 hb2 hB2 hc0 hc1 hb1 hsl HONE HORD
    go_wp2
    go_loopw [5] (fun i wr => ∃ k : Nat, k ≤ O.length ∧ i = .int .i64 k ∧ Row W.heap.size 3 1 wr (.slice A2 O.length c2) (turned (fun i => ints (rnAt ⟨rs, ts⟩ (O.getD i 0))) (ixs O) k) ∧ Below W.heap.size W wr)
      (fun i _ => O.length - (intOf i).toNat)
    case atStart => exact ⟨0, Nat.zero_le _, rfl, HR2.out, HB2.out⟩
    case round =>
      clear HR2 HB2
      obtain ⟨k, hkl, rfl, hrow, hb⟩ := hrel
      by_cases hlt : k < O.length
      · have htl := turned_len (f := fun i => ints (rnAt ⟨rs, ts⟩ (O.getD i 0))) (ys := ixs O) (j := k) (by rw [ixs_len]; omega)
        rw [ixs_len] at htl
        obtain ⟨g, cap, he, hbg, hg, hcap⟩ := hrow.form (by rw [htl]; omega)
        simp only [Value.slice.injEq] at he
        obtain ⟨rfl, hq, rfl⟩ := he
        clear hq hcap
        have hkt : k < (turned (fun i => ints (rnAt ⟨rs, ts⟩ (O.getD i 0))) (ixs O) k).length := by rw [htl]; exact hlt
        have hr := hrow.range hkt
        rw [turned_at (by rw [ixs_len]; exact hlt), ixs_get] at hr
        have he1 := int_at hr
        rw [Nat.mul_one] at he1
        have hol := HOM.out _ (List.getElem_mem hlt)
        obtain ⟨a, oa, rfl, hatA⟩ := flat_at hkA (by omega)
        have hcr := int_at (rangeAt_below (hatA O[k] hol) hb)
        rw [Nat.mul_one] at hcr
        have hc1 := hcn ⟨wr, hb⟩
        simp only at hc1
        have hf1 := hrow.frozen k
        have HSET := Lib.hid (show (turned (fun i => ints (rnAt ⟨rs, ts⟩ (O.getD i 0))) (ixs O) k).set k (ints rs[O[k]]) = turned (fun i => ints (rnAt ⟨rs, ts⟩ (O.getD i 0))) (ixs O) (k + 1) by
          rw [← turned_set _ _ _ (by rw [ixs_len]; exact hlt)]
          congr 2
          rw [← HRN.out _ hol]
          simp [hlt])
        obtain ⟨r1, g1⟩ := row_int_set hrow hkt rs[O[k]]
        rw [HSET.out] at r1
        obtain ⟨x, hx⟩ : ∃ x, x = O[k] := ⟨_, rfl⟩
        rw [← hx] at he1 hol
        obtain ⟨y, hy⟩ : ∃ y, y = rs[O[k]] := ⟨_, rfl⟩
        rw [← hy] at hcr r1 g1
        rw [← hx] at hcr
        have hz3 : (x : Int) < (rs.length : Int) := by omega
        have HR3 := Lib.hid r1.drew
        have HB3 := Lib.hid ((hb.grown g1 hb.size (fun q hq => by cases hq; exact hbg)).drew)
        clear hr hatA hkA r1 g1 hx hy htl hkt hrow
        go_wp2
        go_region
        have HR4 := HR3.out
        have HB4 := HB3.out
        generalize (wr.setCell ⟨g, k, none⟩ (.int .i64 y)).drew = W4 at HR4 HB4 ⊢
        go_wp2
        go_roundw
        case rel => exact ⟨k + 1, by omega, by go_num, HR4, HB4⟩
        case measure => simp [intOf]; omega
      · go_wp2
        go_ret2
        obtain rfl : k = O.length := by omega
        have h5 := turned_all (fun i => ints (rnAt ⟨rs, ts⟩ (O.getD i 0))) (ixs O)
        rw [ixs_len] at h5
        rw [h5] at hrow
        refine ⟨_, rfl, ?_, step_ HW.out (Nat.le_refl _) hb⟩
        have h6 : (List.range O.length).map (fun i => ints (rnAt ⟨rs, ts⟩ (O.getD i 0))) = (O.map (rnAt ⟨rs, ts⟩)).map ints := by
          apply List.ext_getElem (by simp)
          intro i h1 h2
          simp at h1
          simp [h1]
        rw [h6] at hrow
        exact hrow.mono (by have := HSZ.out; omega)
end Go.Proofs.Ytabgmbmaakglkaa
