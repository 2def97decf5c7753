/- The walks of StatusOf. No condition. -/
import Derived.Test.YtojpklpfnmjikaaReQ
namespace Go.Proofs.Ytojpklpfnmjikaa
open Go Go.RowKit

set_option maxRecDepth 100000 in
set_option maxHeartbeats 4000000 in
theorem impl_StatusOf (xs : List Run) (ks : List RunK) (v : Value) (cs : List Int) (u : Value) (limit r : Int) (w : World) (hks : xs.map Run.k = ks) (h : RunS w v xs) (hs : Sl (Flat ints) 1 w u cs) (_ : ∀ x ∈ cs, I64 x) (_ : I64 limit) (_ : I64 r) :
    Calls Try.prog 25 #[v, u, .int .i64 limit, .int .i64 r] w fun e w' => e = .returned (.tuple #[.int .i64 (stoV ks cs limit r).1, .bool (stoV ks cs limit r).2]) ∧ Below w.heap.size w w' := by
  subst hks
  have HFI := Lib.hid (runIndex_any xs r v w h)
  have HAS := Lib.hid (fun W (hW : Below w.heap.size w W) => canJudge_any xs cs limit v u W (h.below hW) (hs.below (Flat.keeps _) hW))
  rcases idxA_cases (isRn r) xs with ⟨hi, _⟩ | ⟨i, hil, hi, hpi, hbef⟩
  · have HV := Lib.hid (show stoV (xs.map Run.k) cs limit r = (0, false) from stoV_none (findR_none hi))
    rw [hi] at HFI
    rw [HV.out]
    obtain ⟨q, hq⟩ : ∃ q, askR (xs.map Run.k) cs limit = q := ⟨_, rfl⟩
    rw [hq] at HAS
    clear hq hi h hs
    cases q <;>
    · go_enter Try.func25, Try.ntmps25
      go_wp2_with (first
        | (go_at_call 58; refine HFI.out.mono ?_; rintro e w1 ⟨rfl, hb1⟩)
        | (go_at_call 64; refine (HAS.out _ hb1).mono ?_; rintro e w2 ⟨rfl, hb2⟩))
      go_ret2
      exact ⟨rfl, step_ hb1 (Nat.le_refl _) hb2⟩
  have HF := Lib.hid (findR_at hil hpi hbef)
  rw [hi] at HFI
  have hi0 : ¬ ((i : Int) < 0) := by omega
  clear hpi hbef hi
  by_cases ha : askR (xs.map Run.k) cs limit = true
  rotate_left
  · have ha' : askR (xs.map Run.k) cs limit = false := by simpa using ha
    have HV := Lib.hid (show stoV (xs.map Run.k) cs limit r = (0, false) from stoV_no ha')
    rw [ha'] at HAS
    rw [HV.out]
    clear ha ha' h hs
    go_enter Try.func25, Try.ntmps25
    go_wp2_with (first
      | (go_at_call 58; refine HFI.out.mono ?_; rintro e w1 ⟨rfl, hb1⟩)
      | (go_at_call 64; refine (HAS.out _ hb1).mono ?_; rintro e w2 ⟨rfl, hb2⟩))
    go_ret2
    exact ⟨rfl, step_ hb1 (Nat.le_refl _) hb2⟩
  obtain ⟨hg, hco, hl1, hl2⟩ := askR_parts ha
  have hlen := codesOk_len hco
  have HST := Lib.hid (fun W (hW : Below w.heap.size w W) => statusOf_any xs[i] cs u limit W ((h.2 _ (List.getElem_mem hil)).below hW) (hs.below (Flat.keeps _) hW) (by omega) (goodRs_ok hg _ (List.getElem_mem hil)))
  have HV := Lib.hid (stoV_some ha HF.out)
  obtain ⟨A, c, rfl, hc, hm, hk⟩ := h.1.open_
  obtain ⟨b, off, rfl, hat⟩ := flat_at hk (by omega)
  have HRI := Lib.hid (hat i hil)
  rw [ha] at HAS
  obtain ⟨s, hs'⟩ : ∃ s, s = stV xs[i].k cs limit := ⟨_, rfl⟩
  rw [← hs'] at HST HV
  rw [HV.out]
  clear ha hg hco h hk hat hs' hs hlen
  go_enter Try.func25, Try.ntmps25
  go_wp2_with (first
    | (go_at_call 58; refine HFI.out.mono ?_; rintro e w1 ⟨rfl, hb1⟩)
    | (go_at_call 64; refine (HAS.out _ hb1).mono ?_; rintro e w2 ⟨rfl, hb2⟩; have hB2 := step_ hb1 (Nat.le_refl _) hb2; have hr := rangeAt_below HRI.out hB2)
    | ((with_reducible refine at_load_ 53 ?_); refine Run.loadImpl rfl _ rfl b (off + i * 7) rfl _ hr ?_)
    | (go_at_call 65; refine (HST.out _ hB2).mono ?_; rintro e w3 ⟨rfl, hb3⟩))
  go_ret2
  exact ⟨rfl, step_ hB2 (Nat.le_refl _) hb3⟩

set_option maxRecDepth 100000 in
set_option maxHeartbeats 4000000 in
theorem spec_StatusOf (xs : List Run) (ks : List RunK) (v : Value) (cs : List Int) (u : Value) (limit r : Int) (w : World) (hks : xs.map Run.k = ks) (h : RunS w v xs) (hs : Sl (Flat ints) 1 w u cs) (_ : ∀ x ∈ cs, I64 x) (_ : I64 limit) (_ : I64 r) :
    Calls Try.prog 23 #[v, u, .int .i64 limit, .int .i64 r] w fun e w' => e = .returned (.tuple #[.int .i64 (stoV ks cs limit r).1, .bool (stoV ks cs limit r).2]) ∧ Below w.heap.size w w' := by
  subst hks
  have HFI := Lib.hid (l15Find_any xs r v w h)
  have HAS := Lib.hid (fun W (hW : Below w.heap.size w W) => l15Asked_any xs cs limit v u W (h.below hW) (hs.below (Flat.keeps _) hW))
  rcases idxA_cases (isRn r) xs with ⟨hi, _⟩ | ⟨i, hil, hi, hpi, hbef⟩
  · have HV := Lib.hid (show stoV (xs.map Run.k) cs limit r = (0, false) from stoV_none (findR_none hi))
    rw [hi] at HFI
    rw [HV.out]
    obtain ⟨q, hq⟩ : ∃ q, askR (xs.map Run.k) cs limit = q := ⟨_, rfl⟩
    rw [hq] at HAS
    clear hq hi h hs
    cases q <;>
    · go_enter Try.func23, Try.ntmps23
      go_wp2_with (first
        | (go_at_call 56; refine HFI.out.mono ?_; rintro e w1 ⟨rfl, hb1⟩)
        | (go_at_call 62; refine (HAS.out _ hb1).mono ?_; rintro e w2 ⟨rfl, hb2⟩))
      go_ret2
      exact ⟨rfl, step_ hb1 (Nat.le_refl _) hb2⟩
  have HF := Lib.hid (findR_at hil hpi hbef)
  rw [hi] at HFI
  have hi0 : ¬ ((i : Int) < 0) := by omega
  clear hpi hbef hi
  by_cases ha : askR (xs.map Run.k) cs limit = true
  rotate_left
  · have ha' : askR (xs.map Run.k) cs limit = false := by simpa using ha
    have HV := Lib.hid (show stoV (xs.map Run.k) cs limit r = (0, false) from stoV_no ha')
    rw [ha'] at HAS
    rw [HV.out]
    clear ha ha' h hs
    go_enter Try.func23, Try.ntmps23
    go_wp2_with (first
      | (go_at_call 56; refine HFI.out.mono ?_; rintro e w1 ⟨rfl, hb1⟩)
      | (go_at_call 62; refine (HAS.out _ hb1).mono ?_; rintro e w2 ⟨rfl, hb2⟩))
    go_ret2
    exact ⟨rfl, step_ hb1 (Nat.le_refl _) hb2⟩
  obtain ⟨hg, hco, hl1, hl2⟩ := askR_parts ha
  have hlen := codesOk_len hco
  have HST := Lib.hid (fun W (hW : Below w.heap.size w W) => l15Status_any xs[i] cs u limit W ((h.2 _ (List.getElem_mem hil)).below hW) (hs.below (Flat.keeps _) hW) (by omega) (goodRs_ok hg _ (List.getElem_mem hil)))
  have HV := Lib.hid (stoV_some ha HF.out)
  obtain ⟨A, c, rfl, hc, hm, hk⟩ := h.1.open_
  obtain ⟨b, off, rfl, hat⟩ := flat_at hk (by omega)
  have HRI := Lib.hid (hat i hil)
  rw [ha] at HAS
  obtain ⟨s, hs'⟩ : ∃ s, s = stV xs[i].k cs limit := ⟨_, rfl⟩
  rw [← hs'] at HST HV
  rw [HV.out]
  clear ha hg hco h hk hat hs' hs hlen
  go_enter Try.func23, Try.ntmps23
  go_wp2_with (first
    | (go_at_call 56; refine HFI.out.mono ?_; rintro e w1 ⟨rfl, hb1⟩)
    | (go_at_call 62; refine (HAS.out _ hb1).mono ?_; rintro e w2 ⟨rfl, hb2⟩; have hB2 := step_ hb1 (Nat.le_refl _) hb2; have hr := rangeAt_below HRI.out hB2)
    | ((with_reducible refine at_load_ 53 ?_); refine Run.loadImpl rfl _ rfl b (off + i * 7) rfl _ hr ?_)
    | (go_at_call 63; refine (HST.out _ hB2).mono ?_; rintro e w3 ⟨rfl, hb3⟩))
  go_ret2
  exact ⟨rfl, step_ hB2 (Nat.le_refl _) hb3⟩

end Go.Proofs.Ytojpklpfnmjikaa
