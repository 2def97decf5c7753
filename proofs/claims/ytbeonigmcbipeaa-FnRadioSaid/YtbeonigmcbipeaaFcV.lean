/- The walks of Forecast. No condition. -/
import Derived.Test.YtbeonigmcbipeaaFc
namespace Go.Proofs.Ytbeonigmcbipeaa
open Go Go.RowKit

theorem getD_ {o : Option Int} {t : Int} (h : o = some t) : o.getD 0 = t ∧ o.isSome = true := by subst h; exact ⟨rfl, rfl⟩
set_option maxRecDepth 100000 in
set_option maxHeartbeats 4000000 in
theorem spec_Forecast (xs : List Pas) (ks : List PK) (v : Value) (p r : Int) (w : World) (hks : xs.map Pas.k = ks) (h : PasS w v xs) (_ : I64 p) (_ : I64 r) :
    Calls Try.prog 27 #[v, .int .i64 p, .int .i64 r] w fun e w' => e = .returned (.tuple #[.int .i64 (fcV ks p r).1, .bool (fcV ks p r).2]) ∧ Below w.heap.size w w' := by
  subst hks
  have HSL := Lib.hid h
  have HFI := Lib.hid (@l19Find_any xs r v w h)
  rcases idxA_cases (isRun r) xs with ⟨hi, hall⟩ | ⟨i, hil, hi, hpi, hbef⟩
  · have HV := Lib.hid (show fcV (xs.map Pas.k) p r = (0, false) from fcV_none (find_of_idx hi))
    rw [hi] at HFI
    rw [HV.out]
    obtain ⟨q, hq⟩ : ∃ q, q = askP (xs.map Pas.k) p := ⟨_, rfl⟩
    have HQ := Lib.hid hq
    clear hq hi hall h
    cases q <;>
    · go_enter Try.func27, Try.ntmps27
      go_wp2_with (first
        | (go_at_call 56; refine HFI.out.mono ?_; rintro e w1 ⟨rfl, hb1⟩)
        | (go_at_call 57; refine (l19Asked_any xs p _ _ (HSL.out.below hb1)).mono ?_; rintro e w2 ⟨rfl, hb2⟩; rw [← HQ.out]))
      go_ret2
      exact ⟨rfl, step_ hb1 (Nat.le_refl _) hb2⟩
  have HF := Lib.hid (find_at hil hpi hbef)
  rw [hi] at HFI
  clear hpi hbef hi
  by_cases ha : askP (xs.map Pas.k) p = true
  rotate_left
  · have ha' : askP (xs.map Pas.k) p = false := by simpa using ha
    have HV := Lib.hid (show fcV (xs.map Pas.k) p r = (0, false) from fcV_no ha')
    have HQ := Lib.hid ha'
    rw [HV.out]
    clear ha ha' h
    go_enter Try.func27, Try.ntmps27
    go_wp2_with (first
      | (go_at_call 56; refine HFI.out.mono ?_; rintro e w1 ⟨rfl, hb1⟩)
      | (go_at_call 57; refine (l19Asked_any xs p _ _ (HSL.out.below hb1)).mono ?_; rintro e w2 ⟨rfl, hb2⟩; rw [HQ.out]))
    go_ret2
    exact ⟨rfl, step_ hb1 (Nat.le_refl _) hb2⟩
  obtain ⟨hg, hp0, hp3⟩ := askP_place ha
  have HGA := Lib.hid (show ∀ p ∈ xs, OkK p.k from good_at hg)
  obtain ⟨P, rfl⟩ : ∃ P : Nat, p = P := ⟨p.toNat, by omega⟩
  have hP3 : P ≤ 3 := by omega
  have HQ := Lib.hid ha
  have HFC := Lib.hid (fun W (hW : Below w.heap.size w W) => l19Forecast_any xs P i v W (HSL.out.below hW) hil HGA.out hP3)
  have hV := fcV_some ha HF.out
  simp only [Int.toNat_natCast] at hV
  have hi0 : ¬ ((i : Int) < 0) := by omega
  clear ha hg hp0 hp3 h
  cases hf : fcN (xs.map Pas.k) P xs[i].k with
  | none =>
    rw [hf] at HFC hV
    have HV := Lib.hid hV
    have HT2 := Lib.hid (show fcJ none = -1 from rfl)
    rw [HT2.out] at HFC
    clear hV hf
    rw [HV.out]
    go_enter Try.func27, Try.ntmps27
    go_wp2_with (first
      | (go_at_call 56; refine HFI.out.mono ?_; rintro e w1 ⟨rfl, hb1⟩)
      | (go_at_call 57; refine (l19Asked_any xs P _ _ (HSL.out.below hb1)).mono ?_; rintro e w2 ⟨rfl, hb2⟩; rw [HQ.out]; have hB2 := step_ hb1 (Nat.le_refl _) hb2)
      | (go_at_call 64; refine (HFC.out _ hB2).mono ?_; rintro e w3 ⟨rfl, hb3⟩))
    go_ret2
    exact ⟨rfl, step_ hB2 (Nat.le_refl _) hb3⟩
  | some t =>
    have ht0 := fc_nonneg HGA.out (HGA.out _ (List.getElem_mem hil)) hf
    rw [hf] at HFC hV
    have HV := Lib.hid hV
    clear hV hf
    rw [HV.out]
    go_enter Try.func27, Try.ntmps27
    go_wp2_with fail
    refine HFI.out.mono ?_
    rintro e w1 ⟨rfl, hb1⟩
    go_wp2_with fail
    refine (l19Asked_any xs P _ _ (HSL.out.below hb1)).mono ?_
    rintro e w2 ⟨rfl, hb2⟩
    rw [HQ.out]
    have hB2 := step_ hb1 (Nat.le_refl _) hb2
    have HT := Lib.hid (show fcJ (some t) = t from rfl)
    go_wp2_with fail
    refine (HFC.out _ hB2).mono ?_
    rintro e w3 ⟨rfl, hb3⟩
    rw [HT.out]
    have hB3 := step_ hB2 (Nat.le_refl _) hb3
    go_wp2_with fail
    refine (HFC.out _ hB3).mono ?_
    rintro e w4 ⟨rfl, hb4⟩
    rw [HT.out]
    go_wp2
    go_ret2
    exact ⟨rfl, step_ hB3 (Nat.le_refl _) hb4⟩

set_option maxRecDepth 100000 in
set_option maxHeartbeats 4000000 in
theorem impl_Forecast (xs : List Pas) (ks : List PK) (v : Value) (p r : Int) (w : World) (hks : xs.map Pas.k = ks) (h : PasS w v xs) (_ : I64 p) (_ : I64 r) :
    Calls Try.prog 28 #[v, .int .i64 p, .int .i64 r] w fun e w' => e = .returned (.tuple #[.int .i64 (fcV ks p r).1, .bool (fcV ks p r).2]) ∧ Below w.heap.size w w' := by
  subst hks
  have HSL := Lib.hid h
  have HFI := Lib.hid (@passingIndex_any xs r v w h)
  rcases idxA_cases (isRun r) xs with ⟨hi, hall⟩ | ⟨i, hil, hi, hpi, hbef⟩
  · have HV := Lib.hid (show fcV (xs.map Pas.k) p r = (0, false) from fcV_none (find_of_idx hi))
    rw [hi] at HFI
    rw [HV.out]
    obtain ⟨q, hq⟩ : ∃ q, q = askP (xs.map Pas.k) p := ⟨_, rfl⟩
    have HQ := Lib.hid hq
    clear hq hi hall h
    cases q <;>
    · go_enter Try.func28, Try.ntmps28
      go_wp2_with (first
        | (go_at_call 58; refine HFI.out.mono ?_; rintro e w1 ⟨rfl, hb1⟩)
        | (go_at_call 59; refine (isPlace_any xs p _ _ (HSL.out.below hb1)).mono ?_; rintro e w2 ⟨rfl, hb2⟩; rw [← HQ.out]))
      go_ret2
      exact ⟨rfl, step_ hb1 (Nat.le_refl _) hb2⟩
  have HF := Lib.hid (find_at hil hpi hbef)
  rw [hi] at HFI
  clear hpi hbef hi
  by_cases ha : askP (xs.map Pas.k) p = true
  rotate_left
  · have ha' : askP (xs.map Pas.k) p = false := by simpa using ha
    have HV := Lib.hid (show fcV (xs.map Pas.k) p r = (0, false) from fcV_no ha')
    have HQ := Lib.hid ha'
    rw [HV.out]
    clear ha ha' h
    go_enter Try.func28, Try.ntmps28
    go_wp2_with (first
      | (go_at_call 58; refine HFI.out.mono ?_; rintro e w1 ⟨rfl, hb1⟩)
      | (go_at_call 59; refine (isPlace_any xs p _ _ (HSL.out.below hb1)).mono ?_; rintro e w2 ⟨rfl, hb2⟩; rw [HQ.out]))
    go_ret2
    exact ⟨rfl, step_ hb1 (Nat.le_refl _) hb2⟩
  obtain ⟨hg, hp0, hp3⟩ := askP_place ha
  have HGA := Lib.hid (show ∀ p ∈ xs, OkK p.k from good_at hg)
  have hlen := goodPs_len hg
  obtain ⟨P, rfl⟩ : ∃ P : Nat, p = P := ⟨p.toNat, by omega⟩
  have hP3 : P ≤ 3 := by omega
  have HQ := Lib.hid ha
  have HIN := Lib.hid (h.2 _ (List.getElem_mem hil))
  have HFC := Lib.hid (fun W (hW : Below w.heap.size w W) => forecast_any xs P xs[i] v W (HSL.out.below hW) (HIN.out.below hW) hlen HGA.out (HGA.out _ (List.getElem_mem hil)) hP3)
  have hV := fcV_some ha HF.out
  simp only [Int.toNat_natCast] at hV
  have HV := Lib.hid hV
  have hi0 : ¬ ((i : Int) < 0) := by omega
  obtain ⟨A, c, rfl, hc, hm, hk⟩ := h.1.open_
  obtain ⟨b, off, rfl, hat⟩ := flat_at hk (by omega)
  have HRI := Lib.hid (hat i hil)
  obtain ⟨o, ho⟩ : ∃ o, o = fcN (xs.map Pas.k) P xs[i].k := ⟨_, rfl⟩
  rw [← ho] at HFC HV
  clear ha hg hp0 hp3 h hV hk hat ho
  rw [HV.out]
  go_enter Try.func28, Try.ntmps28
  go_wp2_with (first
    | (go_at_call 58; refine HFI.out.mono ?_; rintro e w1 ⟨rfl, hb1⟩)
    | (go_at_call 59; refine (isPlace_any xs P _ _ (HSL.out.below hb1)).mono ?_; rintro e w2 ⟨rfl, hb2⟩; rw [HQ.out]; have hB2 := step_ hb1 (Nat.le_refl _) hb2; have hr := rangeAt_below HRI.out hB2)
    | ((with_reducible refine at_load_ 49 ?_); refine Pas.loadImpl rfl _ rfl b (off + i * 2) rfl _ hr ?_)
    | (go_at_call 65; refine (HFC.out _ hB2).mono ?_; rintro e w3 ⟨rfl, hb3⟩))
  go_ret2
  exact ⟨rfl, step_ hB2 (Nat.le_refl _) hb3⟩
end Go.Proofs.Ytbeonigmcbipeaa
