/- The walks of RankAt. No condition. -/
import Derived.Test.YtbeonigmcbipeaaRankS
namespace Go.Proofs.Ytbeonigmcbipeaa
open Go Go.RowKit

theorem goodPs_len {xs : List Pas} (h : goodPs (xs.map Pas.k) = true) : xs.length ≤ 10 := by simpa using (goodPs_iff.1 h).2
theorem Pas.look {w : World} {x : Pas} (hin : x.In w) {P : Nat} (hP : P < x.k.splits.length) : ∃ b o, x.a = some ⟨b, o, none⟩ ∧ ∀ s : After w, s.w'.cell? ⟨b, o + P, none⟩ = some (.int .i64 (atP x.k P)) := by
  obtain ⟨b, o, h1, h2⟩ := hin.at hP
  exact ⟨b, o, h1, After.keep h2⟩
theorem rank_more {ks : List PK} {P : Nat} {s : Int} {k : Nat} (h : k < ks.length) (ha : P < ks[k].splits.length ∧ atP ks[k] P < s) : rankN (ks.take (k + 1)) P s = rankN (ks.take k) P s + 1 := by
  rw [rank_step _ _ _ _ h, if_pos (by simp [ahead, ha])]
theorem rank_same {ks : List PK} {P : Nat} {s : Int} {k : Nat} (h : k < ks.length) (ha : ¬ (P < ks[k].splits.length ∧ atP ks[k] P < s)) : rankN (ks.take (k + 1)) P s = rankN (ks.take k) P s := by
  rw [rank_step _ _ _ _ h, if_neg (by simp only [ahead, Bool.and_eq_true, decide_eq_true_eq]; exact ha)]; omega
theorem rankV_yes {ks : List PK} {p r : Int} {k : PK} (ha : askP ks p = true) (hf : ks.find? (fun k => k.runner == r) = some k) (hp : p < (k.splits.length : Int)) : rankV ks p r = (rankN ks p.toNat (atP k p.toNat), true) := by
  simp [rankV, ha, hf, hp]
theorem rankV_short {ks : List PK} {p r : Int} {k : PK} (hf : ks.find? (fun k => k.runner == r) = some k) (hp : ¬ p < (k.splits.length : Int)) : rankV ks p r = (0, false) := by
  unfold rankV
  split
  · simp only [hf, if_neg hp]
  · rfl
theorem rankV_none {ks : List PK} {p r : Int} (hf : ks.find? (fun k => k.runner == r) = none) : rankV ks p r = (0, false) := by
  unfold rankV
  split
  · simp only [hf]
  · rfl

set_option maxRecDepth 100000 in
set_option maxHeartbeats 4000000 in
theorem spec_RankAt (xs : List Pas) (ks : List PK) (v : Value) (p r : Int) (w : World) (hks : xs.map Pas.k = ks) (h : PasS w v xs) (_ : I64 p) (_ : I64 r) :
    Calls Try.prog 19 #[v, .int .i64 p, .int .i64 r] w fun e w' => e = .returned (.tuple #[.int .i64 (rankV ks p r).1, .bool (rankV ks p r).2]) ∧ Below w.heap.size w w' := by
  have HSL := Lib.hid h
  have HFI := Lib.hid (@l19Find_any xs r v w h)
  rcases idxA_cases (isRun r) xs with ⟨hi, hall⟩ | ⟨i, hil, hi, hpi, hbef⟩
  · have HV := Lib.hid (show rankV ks p r = (0, false) by rw [← hks]; exact rankV_none (find_of_idx hi))
    rw [hi] at HFI
    rw [HV.out]
    obtain ⟨q, hq⟩ : ∃ q, q = askP (xs.map Pas.k) p := ⟨_, rfl⟩
    have HQ := Lib.hid hq
    clear hq hi hall hks h
    cases q <;>
    · go_enter Try.func19, Try.ntmps19
      go_wp2_with (first
        | (go_at_call 56; refine HFI.out.mono ?_; rintro e w1 ⟨rfl, hb1⟩)
        | (go_at_call 57; refine (l19Asked_any xs p _ _ (HSL.out.below hb1)).mono ?_; rintro e w2 ⟨rfl, hb2⟩; rw [← HQ.out]))
      go_ret2
      exact ⟨rfl, step_ hb1 (Nat.le_refl _) hb2⟩
  have HF := Lib.hid (show ks.find? (fun k => k.runner == r) = some xs[i].k by rw [← hks]; exact find_at hil hpi hbef)
  rw [hi] at HFI
  have hlk : xs.length = ks.length := by rw [← hks]; simp
  have HLK := Lib.hid (show ∀ k (h : k < xs.length) (h' : k < ks.length), ks[k] = xs[k].k from fun k hk hk' => by simp [← hks])
  have HLN := Lib.hid hlk
  clear hpi hbef hi hlk
  by_cases ha : askP (xs.map Pas.k) p = true
  rotate_left
  · have ha' : askP (xs.map Pas.k) p = false := by simpa using ha
    have HV := Lib.hid (show rankV ks p r = (0, false) by rw [← hks]; exact rankV_no ha')
    have HQ := Lib.hid ha'
    rw [HV.out]
    clear ha ha' h hks
    go_enter Try.func19, Try.ntmps19
    go_wp2_with (first
      | (go_at_call 56; refine HFI.out.mono ?_; rintro e w1 ⟨rfl, hb1⟩)
      | (go_at_call 57; refine (l19Asked_any xs p _ _ (HSL.out.below hb1)).mono ?_; rintro e w2 ⟨rfl, hb2⟩; rw [HQ.out]))
    go_ret2
    exact ⟨rfl, step_ hb1 (Nat.le_refl _) hb2⟩
  have hg : goodPs (xs.map Pas.k) = true := by simp only [askP, Bool.and_eq_true] at ha; exact ha.1
  have hp3 := inB_iff.1 (show inB p 0 3 = true by simp only [askP, Bool.and_eq_true] at ha; exact ha.2)
  have hlen := goodPs_len hg
  obtain ⟨P, rfl⟩ : ∃ P : Nat, p = P := ⟨p.toNat, by omega⟩
  have hP3 : P ≤ 3 := by omega
  have HQ := Lib.hid ha
  have HA' := Lib.hid (show askP ks P = true by rw [← hks]; exact ha)
  have HI := Lib.hid h.2
  obtain ⟨A, c, rfl, hc, hm, hk⟩ := h.1.open_
  obtain ⟨b, off, rfl, hat⟩ := flat_at hk (by omega)
  have HAT := Lib.hid hat
  have HRI := Lib.hid (hat i hil)
  have HIN := Lib.hid (h.2 _ (List.getElem_mem hil))
  obtain ⟨x, hx⟩ : ∃ x, x = xs[i] := ⟨_, rfl⟩
  rw [← hx] at HRI HIN HF
  have hxl := HIN.out.len
  clear ha hg hp3 h hk hat hx hks
  obtain ⟨⟨rn, sp⟩, A, n, c'⟩ := x
  simp only at hxl
  subst hxl
  by_cases hsp : P < sp.length
  rotate_left
  · have HV := Lib.hid (show rankV ks P r = (0, false) from rankV_short HF.out (by simp only; omega))
    rw [HV.out]
    go_enter Try.func19, Try.ntmps19
    go_wp2_with (first
      | (go_at_call 56; refine HFI.out.mono ?_; rintro e w1 ⟨rfl, hb1⟩)
      | (go_at_call 57; refine (l19Asked_any xs P _ _ (HSL.out.below hb1)).mono ?_; rintro e w2 ⟨rfl, hb2⟩; rw [HQ.out]
         have hc2 := Pas.cells (rangeAt_below HRI.out (step_ hb1 (Nat.le_refl _) hb2))
         simp only at hc2))
    go_ret2
    exact ⟨rfl, step_ hb1 (Nat.le_refl _) hb2⟩
  have HV := Lib.hid (show rankV ks P r = (rankN ks P (atP ⟨rn, sp⟩ P), true) from rankV_yes HA'.out HF.out (by simp only; omega))
  rw [HV.out]
  obtain ⟨bi, oi, hai, hsi⟩ := Pas.look HIN.out (P := P) hsp
  simp only at hai
  subst hai
  have HSI := Lib.hid hsi
  obtain ⟨si, hsi'⟩ : ∃ si, si = atP ⟨rn, sp⟩ P := ⟨_, rfl⟩
  simp only at hsi HSI
  rw [← hsi'] at HSI ⊢
  clear hsi hsi'
  go_enter Try.func19, Try.ntmps19
  go_wp2_with (first
    | (go_at_call 56; refine HFI.out.mono ?_; rintro e w1 ⟨rfl, hb1⟩)
    | (go_at_call 57; refine (l19Asked_any xs P _ _ (HSL.out.below hb1)).mono ?_; rintro e w2 ⟨rfl, hb2⟩; rw [HQ.out]
       have hB := step_ hb1 (Nat.le_refl _) hb2
       have hc2 := Pas.cells (rangeAt_below HRI.out hB)
       simp only at hc2))
  clear hc2 hb1 hb2
  go_loopw [9, 10] (fun t j wr => ∃ k : Nat, k ≤ xs.length ∧ j = .int .i64 k ∧ t = .int .i64 (rankN (ks.take k) P si) ∧ Below w.heap.size w wr)
    (fun _ j _ => xs.length - (intOf j).toNat)
  case atStart => exact ⟨0, Nat.zero_le _, rfl, by simp [rankN], hB⟩
  case round =>
    clear hB
    obtain ⟨k, hkl, rfl, rfl, hb⟩ := hrel
    by_cases hlt : k < xs.length
    · have hkk : k < ks.length := by rw [← HLN.out]; exact hlt
      have hsm := rank_small (ks.take k) P si
      have hl2 : (ks.take k).length ≤ 10 := by have := HLN.out; simp; omega
      have hs1 := hsm.1
      have hs2 : rankN (ks.take k) P si ≤ 11 := by omega
      have HM := Lib.hid (@rank_more ks P si k hkk)
      have HE := Lib.hid (@rank_same ks P si k hkk)
      rw [HLK.out k hlt hkk] at HM HE
      obtain ⟨cur, hcur⟩ : ∃ cur, cur = rankN (ks.take k) P si := ⟨_, rfl⟩
      rw [← hcur] at HM HE hs1 hs2 ⊢
      have hci := Pas.cellsOld (rangeAt_below HRI.out hb)
      have hcy := Pas.cellsOld (rangeAt_below (HAT.out k hlt) hb)
      have hii : ∀ s : After wr, s.w'.cell? ⟨bi, oi + P, none⟩ = some (.int .i64 si) := fun s => HSI.out ⟨s.w', step_ hb (Nat.le_refl _) s.hb⟩
      have HYN := Lib.hid ((HI.out _ (List.getElem_mem hlt)).below hb)
      obtain ⟨y, hy⟩ : ∃ y, y = xs[k] := ⟨_, rfl⟩
      rw [← hy] at hcy HYN HM HE
      have hyl := HYN.out.len
      have HB := Lib.hid hb
      clear hcur hy hsm hl2 hb
      obtain ⟨⟨ry, sy⟩, Ay, ny, cy⟩ := y
      simp only at hyl hcy HM HE hci hii
      subst hyl
      by_cases hPy : P < sy.length
      · obtain ⟨by_, oy, hay, hsy⟩ := Pas.look HYN.out (P := P) hPy
        simp only at hay hsy
        subst hay
        obtain ⟨t, ht⟩ : ∃ t, t = atP ⟨ry, sy⟩ P := ⟨_, rfl⟩
        rw [← ht] at hsy HM HE
        clear ht
        go_wp2
        refine region_after (by kernel_rfl) (by kernel_rfl) ?_
        repeat (any_goals (first | go_big_quiet_step (fail)  | quiet_step (fail) | (refine wpQuiet_step (fun K hK => ?_); go_simp; split <;> (refine hK _ ?_; clear hK K))))
        all_goals (refine wpQuiet_nil ?_; intro s)
        all_goals go_wp2
        all_goals
          go_roundw
          case rel => exact ⟨k + 1, by omega, by go_num, by first | (rw [HM.out ⟨hPy, by omega⟩] <;> go_num) | (rw [HE.out (by omega)]), step_ HB.out (Nat.le_refl _) s.hb⟩
          case measure => simp [intOf]; omega
      · have HE2 := Lib.hid (HE.out (fun hh => hPy hh.1))
        go_wp2
        refine region_after (by kernel_rfl) (by kernel_rfl) ?_
        repeat (any_goals (first | go_big_quiet_step (fail)  | quiet_step (fail) | (refine wpQuiet_step (fun K hK => ?_); go_simp; split <;> (refine hK _ ?_; clear hK K))))
        all_goals (refine wpQuiet_nil ?_; intro s)
        all_goals go_wp2
        all_goals
          go_roundw
          case rel => exact ⟨k + 1, by omega, by go_num, by rw [HE2.out], step_ HB.out (Nat.le_refl _) s.hb⟩
          case measure => simp [intOf]; omega
    · go_wp2
      go_ret2
      obtain rfl : k = xs.length := by omega
      rw [HLN.out, List.take_length]
      exact ⟨rfl, hb⟩
end Go.Proofs.Ytbeonigmcbipeaa
