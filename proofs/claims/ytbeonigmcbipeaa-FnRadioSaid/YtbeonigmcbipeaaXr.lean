/- The walks of ExpectedRank. No condition. -/
import Derived.Test.YtbeonigmcbipeaaFcV
namespace Go.Proofs.Ytbeonigmcbipeaa
open Go Go.RowKit

theorem fcV_true {ks : List PK} {p r : Int} (h : (fcV ks p r).2 = true) : askP ks p = true ∧ ∃ k, ks.find? (fun k => k.runner == r) = some k ∧ fcN ks p.toNat k = some (fcV ks p r).1 := by
  unfold fcV at h ⊢
  by_cases ha : askP ks p = true
  · rw [if_pos ha] at h ⊢
    refine ⟨ha, ?_⟩
    cases hf : ks.find? (fun k => k.runner == r) with
    | none => rw [hf] at h; simp at h
    | some k =>
      rw [hf] at h
      simp only at h ⊢
      refine ⟨k, rfl, ?_⟩
      cases hn : fcN ks p.toNat k with
      | none => rw [hn] at h; simp at h
      | some t => rfl
  · rw [if_neg ha] at h; simp at h
theorem xrV_no {ks : List PK} {p r : Int} (h : (fcV ks p r).2 = false) : xrV ks p r = (0, false) := by simp [xrV, h]
theorem xrV_yes {ks : List PK} {p r : Int} (h : (fcV ks p r).2 = true) : xrV ks p r = (xrN ks ks p.toNat (fcV ks p r).1, true) := by simp [xrV, h]
theorem fcB_none {ks : List PK} {P : Nat} {s : Int} {q : PK} (h : fcN ks P q = none) : fcB ks P s q = false := by simp [fcB, h]
theorem fcB_some {ks : List PK} {P : Nat} {s t : Int} {q : PK} (h : fcN ks P q = some t) : fcB ks P s q = decide (t < s) := by simp [fcB, h]

set_option maxRecDepth 100000 in
set_option maxHeartbeats 4000000 in
theorem impl_ExpectedRank (xs : List Pas) (ks : List PK) (v : Value) (p r : Int) (w : World) (hks : xs.map Pas.k = ks) (h : PasS w v xs) (hp : I64 p) (hr : I64 r) :
    Calls Try.prog 37 #[v, .int .i64 p, .int .i64 r] w fun e w' => e = .returned (.tuple #[.int .i64 (xrV ks p r).1, .bool (xrV ks p r).2]) ∧ Below w.heap.size w w' := by
  subst hks
  have HSL := Lib.hid h
  have HFO := Lib.hid (impl_Forecast xs _ v p r w rfl h hp hr)
  cases hv : (fcV (xs.map Pas.k) p r).2 with
  | false =>
    have HV := Lib.hid (xrV_no hv)
    rw [hv] at HFO
    rw [HV.out]
    clear hv h
    go_enter Try.func37, Try.ntmps37
    go_wp2_with (go_at_call 28; refine HFO.out.mono ?_; rintro e w1 ⟨rfl, hb1⟩)
    go_ret2
    exact ⟨rfl, hb1⟩
  | true =>
    obtain ⟨ha, k0, hk0, hf0⟩ := fcV_true hv
    have HV := Lib.hid (xrV_yes hv)
    rw [hv] at HFO
    rw [HV.out]
    obtain ⟨own, ho⟩ : ∃ own, own = (fcV (xs.map Pas.k) p r).1 := ⟨_, rfl⟩
    rw [← ho] at HFO ⊢
    obtain ⟨hg, hp0, hp3⟩ := askP_place ha
    have HGA := Lib.hid (show ∀ p ∈ xs, OkK p.k from good_at hg)
    have hlen := goodPs_len hg
    obtain ⟨P, rfl⟩ : ∃ P : Nat, p = P := ⟨p.toNat, by omega⟩
    have hP3 : P ≤ 3 := by omega
    simp only [Int.toNat_natCast]
    have HI := Lib.hid h.2
    obtain ⟨A, c, rfl, hc, hm, hk⟩ := h.1.open_
    have hlm : (xs.map Pas.k).length = xs.length := by simp
    have HLM := Lib.hid hlm
    have HKK := Lib.hid (show ∀ k (h : k < xs.length) (h' : k < (xs.map Pas.k).length), (xs.map Pas.k)[k] = xs[k].k from fun k _ _ => by simp)
    obtain ⟨ks, hks⟩ : ∃ ks, ks = xs.map Pas.k := ⟨_, rfl⟩
    have HKS := Lib.hid hks
    rw [← hks] at HLM HKK ⊢
    clear hks hlm hv hk0 hf0 ho ha hg hp0 hp3 h HV hp hr
    go_enter Try.func37, Try.ntmps37
    go_wp2_with (go_at_call 28; refine HFO.out.mono ?_; rintro e w1 ⟨rfl, hb1⟩)
    go_loopw [10, 26] (fun t j wr => ∃ k : Nat, k ≤ xs.length ∧ j = .int .i64 k ∧ t = .int .i64 (xrN ks (ks.take k) P own) ∧ Below w.heap.size w wr)
      (fun _ j _ => xs.length - (intOf j).toNat)
    case atStart => exact ⟨0, Nat.zero_le _, rfl, by simp [xrN], hb1⟩
    case round =>
      clear hb1
      obtain ⟨k, hkl, rfl, rfl, hb⟩ := hrel
      by_cases hlt : k < xs.length
      · obtain ⟨b, off, rfl, hat⟩ := flat_at hk (by omega)
        have hkk : k < ks.length := by rw [HLM.out]; exact hlt
        have hsm := xr_small ks (ks.take k) P own
        have hl2 : (ks.take k).length ≤ 10 := by have := HLM.out; simp; omega
        have hs1 := hsm.1
        have hs2 : xrN ks (ks.take k) P own ≤ 11 := by omega
        have hS := xr_step ks ks P own k hkk
        rw [HKK.out k hlt hkk] at hS
        have HS := Lib.hid hS
        obtain ⟨cur, hcur⟩ : ∃ cur, cur = xrN ks (ks.take k) P own := ⟨_, rfl⟩
        rw [← hcur] at HS hs1 hs2 ⊢
        have hr := rangeAt_below (hat k hlt) hb
        have HIN := Lib.hid (HI.out _ (List.getElem_mem hlt))
        have HOK := Lib.hid (HGA.out _ (List.getElem_mem hlt))
        obtain ⟨x, hx⟩ : ∃ x, x = xs[k] := ⟨_, rfl⟩
        rw [← hx] at hr HIN HOK HS
        have hrn := Pas.rangeNew wr x 49
        have HB := Lib.hid (step_ hb (Nat.le_refl _) (below_alloc (Below.refl _ _) (.cells #[.int .i64 x.k.runner, .slice x.a x.n x.c] 49)))
        clear hcur hx hsm hl2 hb hat hk hS
        cases hf : fcN ks P x.k with
        | none =>
          have HE := Lib.hid (fcB_none (s := own) hf)
          rw [HE.out] at HS
          have HF := Lib.hid hf
          clear hf
          go_wp2_with (first
            | ((with_reducible refine at_load_ 49 ?_); refine Pas.loadImpl rfl _ rfl b (off + k * 2) rfl _ hr ?_)
            | ((with_reducible refine at_load_ 49 ?_); refine Pas.loadImpl rfl _ rfl wr.heap.size 0 rfl _ hrn ?_)
            | (go_at_call 65; refine (forecast_any xs P x _ _ (HSL.out.below HB.out) (HIN.out.below HB.out) hlen HGA.out HOK.out hP3).mono ?_; rw [← HKS.out, HF.out]; rintro e w3 ⟨rfl, hb3⟩))
          go_roundw
          case rel => exact ⟨k + 1, by omega, by go_num, by (rw [HS.out] <;> first | rfl | simp | go_num), step_ HB.out (Nat.le_refl _) hb3⟩
          case measure => simp [intOf]; omega
        | some t =>
          have hE := fcB_some (s := own) hf
          have HF := Lib.hid hf
          clear hf
          by_cases hto : t < own
          · have hE' : fcB ks P own x.k = true := by rw [hE]; simpa using hto
            rw [hE', if_pos rfl] at HS
            clear hE hE'
            go_wp2_with (first
              | ((with_reducible refine at_load_ 49 ?_); refine Pas.loadImpl rfl _ rfl b (off + k * 2) rfl _ hr ?_)
              | ((with_reducible refine at_load_ 49 ?_); refine Pas.loadImpl rfl _ rfl wr.heap.size 0 rfl _ hrn ?_)
              | (go_at_call 65; refine (forecast_any xs P x _ _ (HSL.out.below HB.out) (HIN.out.below HB.out) hlen HGA.out HOK.out hP3).mono ?_; rw [← HKS.out, HF.out]; rintro e w3 ⟨rfl, hb3⟩))
            go_roundw
            case rel => exact ⟨k + 1, by omega, by go_num, by (rw [HS.out] <;> first | rfl | simp | go_num), step_ HB.out (Nat.le_refl _) hb3⟩
            case measure => simp [intOf]; omega
          · have hE' : fcB ks P own x.k = false := by rw [hE]; simpa using hto
            rw [hE', if_neg (by simp)] at HS
            clear hE hE'
            go_wp2_with (first
              | ((with_reducible refine at_load_ 49 ?_); refine Pas.loadImpl rfl _ rfl b (off + k * 2) rfl _ hr ?_)
              | ((with_reducible refine at_load_ 49 ?_); refine Pas.loadImpl rfl _ rfl wr.heap.size 0 rfl _ hrn ?_)
              | (go_at_call 65; refine (forecast_any xs P x _ _ (HSL.out.below HB.out) (HIN.out.below HB.out) hlen HGA.out HOK.out hP3).mono ?_; rw [← HKS.out, HF.out]; rintro e w3 ⟨rfl, hb3⟩))
            go_roundw
            case rel => exact ⟨k + 1, by omega, by go_num, by (rw [HS.out] <;> first | rfl | simp | go_num), step_ HB.out (Nat.le_refl _) hb3⟩
            case measure => simp [intOf]; omega
      · go_wp2
        go_ret2
        obtain rfl : k = xs.length := by omega
        rw [← HLM.out, List.take_length]
        exact ⟨rfl, hb⟩

set_option maxRecDepth 100000 in
set_option maxHeartbeats 4000000 in
theorem spec_ExpectedRank (xs : List Pas) (ks : List PK) (v : Value) (p r : Int) (w : World) (hks : xs.map Pas.k = ks) (h : PasS w v xs) (hp : I64 p) (hr : I64 r) :
    Calls Try.prog 36 #[v, .int .i64 p, .int .i64 r] w fun e w' => e = .returned (.tuple #[.int .i64 (xrV ks p r).1, .bool (xrV ks p r).2]) ∧ Below w.heap.size w w' := by
  subst hks
  have HSL := Lib.hid h
  have HFI := Lib.hid (@l19Find_any xs r v w h)
  rcases idxA_cases (isRun r) xs with ⟨hi, hall⟩ | ⟨i, hil, hi, hpi, hbef⟩
  · have HV := Lib.hid (show xrV (xs.map Pas.k) p r = (0, false) from xrV_no (by rw [fcV_none (find_of_idx hi)]))
    rw [hi] at HFI
    rw [HV.out]
    obtain ⟨q, hq⟩ : ∃ q, q = askP (xs.map Pas.k) p := ⟨_, rfl⟩
    have HQ := Lib.hid hq
    clear hq hi hall h
    cases q <;>
    · go_enter Try.func36, Try.ntmps36
      go_wp2_with (first
        | (go_at_call 56; refine HFI.out.mono ?_; rintro e w1 ⟨rfl, hb1⟩)
        | (go_at_call 57; refine (l19Asked_any xs p _ _ (HSL.out.below hb1)).mono ?_; rintro e w2 ⟨rfl, hb2⟩; rw [← HQ.out]))
      go_ret2
      exact ⟨rfl, step_ hb1 (Nat.le_refl _) hb2⟩
  have HF := Lib.hid (find_at hil hpi hbef)
  rw [hi] at HFI
  clear hpi hbef hi
  by_cases ha : askP (xs.map Pas.k) p = true
  rotate_left
  · have ha' : askP (xs.map Pas.k) p = false := by simpa using ha
    have HV := Lib.hid (show xrV (xs.map Pas.k) p r = (0, false) from xrV_no (by rw [fcV_no ha']))
    have HQ := Lib.hid ha'
    rw [HV.out]
    clear ha ha' h
    go_enter Try.func36, Try.ntmps36
    go_wp2_with (first
      | (go_at_call 56; refine HFI.out.mono ?_; rintro e w1 ⟨rfl, hb1⟩)
      | (go_at_call 57; refine (l19Asked_any xs p _ _ (HSL.out.below hb1)).mono ?_; rintro e w2 ⟨rfl, hb2⟩; rw [HQ.out]))
    go_ret2
    exact ⟨rfl, step_ hb1 (Nat.le_refl _) hb2⟩
  obtain ⟨hg, hp0, hp3⟩ := askP_place ha
  have hlen := goodPs_len hg
  have HGA := Lib.hid (show ∀ p ∈ xs, OkK p.k from good_at hg)
  obtain ⟨P, rfl⟩ : ∃ P : Nat, p = P := ⟨p.toNat, by omega⟩
  have hP3 : P ≤ 3 := by omega
  have HQ := Lib.hid ha
  have HFC := Lib.hid (fun (j : Nat) (hj : j < xs.length) W (hW : Below w.heap.size w W) => l19Forecast_any xs P j v W (HSL.out.below hW) hj HGA.out hP3)
  have HFCI := Lib.hid (HFC.out i hil)
  have hV := fcV_some ha HF.out
  simp only [Int.toNat_natCast] at hV
  have hi0 : ¬ ((i : Int) < 0) := by omega
  have hlm : (xs.map Pas.k).length = xs.length := by simp
  have HLM := Lib.hid hlm
  have HKK := Lib.hid (show ∀ k (h : k < xs.length) (h' : k < (xs.map Pas.k).length), (xs.map Pas.k)[k] = xs[k].k from fun k _ _ => by simp)
  obtain ⟨A, c, rfl, hc, hm, _⟩ := h.1.open_
  have HNN := Lib.hid (fun k (hk : k < xs.length) t => fc_nonneg (xs := xs) (P := P) (t := t) HGA.out (HGA.out _ (List.getElem_mem hk)))
  clear ha hg hp0 hp3 h hlm
  cases hf : fcN (xs.map Pas.k) P xs[i].k with
  | none =>
    have HT2 := Lib.hid (show fcJ none = -1 from rfl)
    rw [hf, HT2.out] at HFCI
    rw [hf] at hV
    have HV := Lib.hid (xrV_no (by rw [hV]; rfl))
    clear hV hf HNN
    rw [HV.out]
    go_enter Try.func36, Try.ntmps36
    go_wp2_with (first
      | (go_at_call 56; refine HFI.out.mono ?_; rintro e w1 ⟨rfl, hb1⟩)
      | (go_at_call 57; refine (l19Asked_any xs P _ _ (HSL.out.below hb1)).mono ?_; rintro e w2 ⟨rfl, hb2⟩; rw [HQ.out]; have hB2 := step_ hb1 (Nat.le_refl _) hb2)
      | (go_at_call 64; refine (HFCI.out _ hB2).mono ?_; rintro e w3 ⟨rfl, hb3⟩))
    go_ret2
    exact ⟨rfl, step_ hB2 (Nat.le_refl _) hb3⟩
  | some own =>
    have ht0 := HNN.out i hil own hf
    rw [hf] at HFCI hV
    have HV := Lib.hid (xrV_yes (by rw [hV]; rfl))
    rw [hV] at HV
    simp only [Int.toNat_natCast, Option.getD_some] at HV
    clear hV hf
    rw [HV.out]
    obtain ⟨ks, hks⟩ : ∃ ks, ks = xs.map Pas.k := ⟨_, rfl⟩
    have HKS := Lib.hid hks
    rw [← hks] at HLM HKK HFC HNN ⊢
    clear hks HV
    have HT := Lib.hid (show ∀ t, fcJ (some t) = t from fun t => rfl)
    have HT2 := Lib.hid (show fcJ none = -1 from rfl)
    go_enter Try.func36, Try.ntmps36
    go_wp2_with (first
      | (go_at_call 56; refine HFI.out.mono ?_; rintro e w1 ⟨rfl, hb1⟩)
      | (go_at_call 57; refine (l19Asked_any xs P _ _ (HSL.out.below hb1)).mono ?_; rintro e w2 ⟨rfl, hb2⟩; rw [HQ.out]; have hB2 := step_ hb1 (Nat.le_refl _) hb2)
      | (go_at_call 64; refine (HFCI.out _ hB2).mono ?_; rw [HT.out]; rintro e w3 ⟨rfl, hb3⟩; have hB3 := step_ hB2 (Nat.le_refl _) hb3))
    clear hb1 hb2 hb3 hB2
    go_loopw [9, 10] (fun t j wr => ∃ k : Nat, k ≤ xs.length ∧ j = .int .i64 k ∧ t = .int .i64 (xrN ks (ks.take k) P own) ∧ Below w.heap.size w wr)
      (fun _ j _ => xs.length - (intOf j).toNat)
    case atStart => exact ⟨0, Nat.zero_le _, rfl, by simp [xrN], hB3⟩
    case round =>
      clear hB3
      obtain ⟨k, hkl, rfl, rfl, hb⟩ := hrel
      by_cases hlt : k < xs.length
      · have hkk : k < ks.length := by rw [HLM.out]; exact hlt
        have hsm := xr_small ks (ks.take k) P own
        have hl2 : (ks.take k).length ≤ 10 := by have := HLM.out; simp; omega
        have hs1 := hsm.1
        have hs2 : xrN ks (ks.take k) P own ≤ 11 := by omega
        have hS := xr_step ks ks P own k hkk
        rw [HKK.out k hlt hkk] at hS
        have HS := Lib.hid hS
        obtain ⟨cur, hcur⟩ : ∃ cur, cur = xrN ks (ks.take k) P own := ⟨_, rfl⟩
        rw [← hcur] at HS hs1 hs2 ⊢
        have HFK := Lib.hid (HFC.out k hlt _ hb)
        have HB := Lib.hid hb
        clear hcur hsm hl2 hb hS
        cases hf : fcN ks P xs[k].k with
        | none =>
          rw [hf, HT2.out] at HFK
          have HE := Lib.hid (fcB_none (s := own) hf)
          rw [HE.out] at HS
          clear hf
          go_wp2_with (go_at_call 64; refine HFK.out.mono ?_; rintro e w4 ⟨rfl, hb4⟩)
          go_roundw
          case rel => exact ⟨k + 1, by omega, by go_num, by (rw [HS.out] <;> first | rfl | simp | go_num), step_ HB.out (Nat.le_refl _) hb4⟩
          case measure => simp [intOf]; omega
        | some t =>
          have htt := HNN.out k hlt t hf
          rw [hf, HT.out] at HFK
          have hE := fcB_some (s := own) hf
          clear hf
          go_wp2_with fail
          refine HFK.out.mono ?_
          rintro e w4 ⟨rfl, hb4⟩
          have hB4 := step_ HB.out (Nat.le_refl _) hb4
          have HFL := Lib.hid (HFCI.out _ hB4)
          rw [HT.out] at HFL
          clear hb4
          by_cases hto : t < own
          · have hE' : fcB ks P own xs[k].k = true := by rw [hE]; simpa using hto
            rw [hE', if_pos rfl] at HS
            clear hE hE'
            go_wp2_with (go_at_call 64; refine HFL.out.mono ?_; rintro e w5 ⟨rfl, hb5⟩)
            go_roundw
            case rel => exact ⟨k + 1, by omega, by go_num, by (rw [HS.out] <;> first | rfl | simp | go_num), step_ hB4 (Nat.le_refl _) hb5⟩
            case measure => simp [intOf]; omega
          · have hE' : fcB ks P own xs[k].k = false := by rw [hE]; simpa using hto
            rw [hE', if_neg (by simp)] at HS
            clear hE hE'
            go_wp2_with (go_at_call 64; refine HFL.out.mono ?_; rintro e w5 ⟨rfl, hb5⟩)
            go_roundw
            case rel => exact ⟨k + 1, by omega, by go_num, by (rw [HS.out] <;> first | rfl | simp | go_num), step_ hB4 (Nat.le_refl _) hb5⟩
            case measure => simp [intOf]; omega
      · go_wp2
        go_ret2
        obtain rfl : k = xs.length := by omega
        rw [← HLM.out, List.take_length]
        exact ⟨rfl, hb⟩
end Go.Proofs.Ytbeonigmcbipeaa
