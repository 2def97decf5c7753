/- RunsOf, the reference. No condition. -/
import Derived.Test.YtfmgnbkneccekaaRcC
import Derived.Test.YtfmgnbkneccekaaRcF
import Derived.Test.YtfmgnbkneccekaaRunM
namespace Go.Proofs.Ytfmgnbkneccekaa
open Go Go.RowKit

def runOfE (i : Nat) (e : EntK) : RunK := ⟨(i : Int) + 1, e.state != 4, false, e.card⟩
noncomputable def runsB (k : RaceK) : Bool := goodRace k && k.closed
noncomputable def runsV (k : RaceK) : List RunK := if runsB k = true then k.field.mapIdx runOfE else []
theorem mapIdx_take {α β : Type} (f : Nat → α → β) (xs : List α) {k : Nat} (h : k < xs.length) : (xs.take (k + 1)).mapIdx f = (xs.take k).mapIdx f ++ [f k xs[k]] := by
  rw [List.take_succ_eq_append_getElem h, List.mapIdx_append]
  simp [Nat.min_eq_left (Nat.le_of_lt h)]
theorem entOk_punches {cl : Int} {cd : Bool} {i : Nat} {e : EntK} (h : entOk cl cd i e = true) : e.card.punches.length ≤ 12 := by
  unfold entOk at h
  have hz : zeroCd e.card = true → e.card.punches.length ≤ 12 := fun h => by
    simp [zeroCd] at h
    simp [h]
  have hr : runningOk cl i e = true → e.card.punches.length ≤ 12 := fun h => by
    simp only [runningOk, Bool.and_eq_true] at h
    exact cardOk_len h.1.1.1
  split at h
  · exact hz (by simp only [Bool.and_eq_true] at h; exact h.1)
  split at h
  · exact hz (by simp only [Bool.and_eq_true] at h; exact h.1)
  split at h
  · exact hr (by simp only [Bool.and_eq_true] at h; exact h.2)
  split at h
  · exact hr h
  · cases h
theorem race_punches {k : RaceK} (h : goodRace k = true) : ∀ e ∈ k.field, e.card.punches.length ≤ 12 := by
  intro e he
  obtain ⟨j, hj, rfl⟩ := List.getElem_of_mem he
  exact entOk_punches ((goodRace_iff.1 h).2.2 j hj)
theorem runsV_small (k : RaceK) : (runsV k).length ≤ 1048576 ∧ ∀ e ∈ runsV k, e.card.punches.length ≤ 1048576 := by
  unfold runsV runsB
  split
  · rename_i h
    simp only [Bool.and_eq_true] at h
    have h1 := race_len h.1
    refine ⟨by simp; omega, fun e he => ?_⟩
    obtain ⟨j, hj, rfl⟩ := List.getElem_of_mem he
    simp only [List.getElem_mapIdx, runOfE]
    have := race_punches h.1 (k.field[j]'(by simpa using hj)) (List.getElem_mem _)
    omega
  · exact ⟨by simp, by simp⟩

set_option maxRecDepth 100000 in
set_option maxHeartbeats 4000000 in
theorem spec_RunsOf (p : Race) (k : RaceK) (w : World) (hk : p.k = k) (h : p.In w) :
    Calls Try.prog 31 #[p.val] w fun e w' => ∃ v' zs, e = .returned (.tuple #[v', .bool (runsB k)]) ∧ zs.map Run.k = runsV k ∧ RunR w.heap.size w' v' zs ∧ Below w.heap.size w w' := by
  subst hk
  have hpl := h.len
  obtain ⟨cl, cd, A, n, c, xs⟩ := p
  simp only at hpl
  subst hpl
  have hs : EntS w (.slice A xs.length c) xs := h
  have HIN := Lib.hid hs.2
  obtain ⟨A', c', hv, hc, hm, hk⟩ := hs.1.open_
  simp only [Value.slice.injEq] at hv
  obtain ⟨rfl, _, rfl⟩ := hv
  have hW : Below w.heap.size w ((w.alloc (.cells #[.int .i64 cl, .bool cd, .slice A xs.length c] 24)).alloc (.cells #[] 94)) := below_alloc (below_alloc (Below.refl _ _) _) _
  have HG := Lib.hid (l21Good_any _ _ (h.below hW))
  have hrc := Race.cellsNew w ⟨cl, cd, A, xs.length, c, xs⟩ 24
  have HRC := Lib.hid (fun W hW => hrc ⟨W, hW⟩)
  have hr0 : RunR (w.heap.size + 1) ((w.alloc (.cells #[.int .i64 cl, .bool cd, .slice A xs.length c] 24)).alloc (.cells #[] 94)) (.slice (some ⟨w.heap.size + 1, 0, none⟩) 0 0) [] := RunR.lit (by simp) (by omega)
  have HW := Lib.hid hW
  have HR0 := Lib.hid hr0
  have hrc0 := hrc ⟨_, below_alloc (Below.refl _ _) (.cells #[] 94)⟩
  have HB0 := Lib.hid (show Below (w.alloc (.cells #[.int .i64 cl, .bool cd, .slice A xs.length c] 24)).heap.size (w.alloc (.cells #[.int .i64 cl, .bool cd, .slice A xs.length c] 24)) ((w.alloc (.cells #[.int .i64 cl, .bool cd, .slice A xs.length c] 24)).alloc (.cells #[] 94)) from below_alloc (Below.refl _ _) _)
  have HZ := Lib.hid (show (w.alloc (.cells #[.int .i64 cl, .bool cd, .slice A xs.length c] 24)).heap.size = w.heap.size + 1 by simp)
  simp only at hrc0
  show Calls Try.prog 31 #[.agg #[.int .i64 cl, .bool cd, .slice A xs.length c]] w _
  by_cases hB : runsB (Race.k ⟨cl, cd, A, xs.length, c, xs⟩) = true
  rotate_left
  · have hB' : runsB (Race.k ⟨cl, cd, A, xs.length, c, xs⟩) = false := by simpa using hB
    have HV := Lib.hid (show runsV (Race.k ⟨cl, cd, A, xs.length, c, xs⟩) = [] by simp [runsV, hB'])
    rw [hB', HV.out]
    have hgc : goodRace (Race.k ⟨cl, cd, A, xs.length, c, xs⟩) = false ∨ cd = false := by
      have h1 := hB'
      unfold runsB at h1
      rcases Bool.and_eq_false_iff.1 h1 with h2 | h2
      · exact .inl h2
      · exact .inr h2
    obtain ⟨q, hq⟩ : ∃ q, goodRace (Race.k ⟨cl, cd, A, xs.length, c, xs⟩) = q := ⟨_, rfl⟩
    rw [hq] at HG hgc
    have HGC := Lib.hid hgc
    clear hq hB hB' hgc hs h hW hk hrc hr0
    cases q
    · go_enter Try.func31, Try.ntmps31
      go_wp2_with (go_at_call 64; refine HG.out.mono ?_; rintro e w1 ⟨rfl, hb1⟩; have hrc1 := HRC.out _ (step_ HB0.out (Nat.le_refl _) hb1); simp only at hrc1)
      go_ret2
      exact ⟨_, [], rfl, rfl, (HR0.out.below hb1).mono (by omega), step_ HW.out (Nat.le_refl _) hb1⟩
    · obtain rfl : cd = false := by simpa using HGC.out
      go_enter Try.func31, Try.ntmps31
      go_wp2_with (go_at_call 64; refine HG.out.mono ?_; rintro e w1 ⟨rfl, hb1⟩; have hrc1 := HRC.out _ (step_ HB0.out (Nat.le_refl _) hb1); simp only at hrc1)
      go_ret2
      exact ⟨_, [], rfl, rfl, (HR0.out.below hb1).mono (by omega), step_ HW.out (Nat.le_refl _) hb1⟩
  have HV := Lib.hid (show runsV (Race.k ⟨cl, cd, A, xs.length, c, xs⟩) = (xs.map Ent.k).mapIdx runOfE by simp only [runsV, hB]; rfl)
  rw [hB, HV.out]
  simp only [runsB, Bool.and_eq_true] at hB
  obtain ⟨hg, hcd⟩ := hB
  simp only [Race.k] at hcd
  subst hcd
  have hl := (race_len hg).2
  simp only [Race.k, List.length_map] at hl
  have HPU := Lib.hid (show ∀ z ∈ xs, z.card.k.punches.length ≤ 1048577 from fun z hz => by
    have := race_punches hg z.k (by simp only [Race.k]; exact List.mem_map_of_mem hz)
    simp only [Ent.k] at this
    omega)
  rw [hg] at HG
  clear hg hs h hW hrc hr0
  go_enter Try.func31, Try.ntmps31
  go_wp2_with (go_at_call 64; refine HG.out.mono ?_; rintro e w1 ⟨rfl, hb1⟩; have hrc1 := HRC.out _ (step_ HB0.out (Nat.le_refl _) hb1); simp only at hrc1)
  have HB1 := Lib.hid (step_ HB0.out (Nat.le_refl _) hb1)
  have HR1 := Lib.hid (HR0.out.below hb1)
  clear hrc0 hrc1 hb1
  go_loopw [4, 5] (fun o i wr => ∃ (k : Nat) (zs : List Run), k ≤ xs.length ∧ i = .int .i64 k ∧ Hid (zs.length = k) ∧ Hid (zs.map Run.k = ((xs.take k).map Ent.k).mapIdx runOfE) ∧ Hid (RunR (w.heap.size + 1) wr o zs) ∧ Hid (Below (w.alloc (.cells #[.int .i64 cl, .bool true, .slice A xs.length c] 24)).heap.size (w.alloc (.cells #[.int .i64 cl, .bool true, .slice A xs.length c] 24)) wr))
    (fun _ i _ => xs.length - (intOf i).toNat)
  case atStart => exact ⟨0, [], Nat.zero_le _, rfl, rfl, rfl, HR1.out, HB1.out⟩
  case round =>
    clear HR1 HB1
    obtain ⟨k, zs, hkl, rfl, HZL, HZK, HR, HB⟩ := hrel
    have hrcr := HRC.out _ HB.out
    try simp only at hrcr
    have HBW := Lib.hid (step_ (below_alloc (Below.refl w.heap.size w) _) (Nat.le_refl _) HB.out)
    by_cases hlt : k < xs.length
    · obtain ⟨b, off, rfl, hat⟩ := flat_at hk (by omega)
      have hr := rangeAt_below (hat k hlt) HBW.out
      have hin := (HIN.out _ (List.getElem_mem hlt)).below HBW.out
      have hpl := HPU.out _ (List.getElem_mem hlt)
      have HSK := Lib.hid (show ((xs.take (k + 1)).map Ent.k).mapIdx runOfE = ((xs.take k).map Ent.k).mapIdx runOfE ++ [runOfE k xs[k].k] by
        rw [List.take_succ_eq_append_getElem hlt, List.map_append, List.mapIdx_append]
        simp [Nat.min_eq_left (Nat.le_of_lt hlt)])
      have HLL := Lib.hid (show (zs.map Run.lst).length + 1 ≤ 2147483648 by rw [List.length_map, HZL.out]; omega)
      have HSZ := Lib.hid (show w.heap.size + 1 ≤ wr.heap.size by have := HB.out.size; rw [HZ.out] at this; exact this)
      obtain ⟨x, hx⟩ : ∃ x, x = xs[k] := ⟨_, rfl⟩
      rw [← hx] at hr hin hpl HSK
      obtain ⟨x0, ⟨⟨k0, k1, k2, sp⟩, B, q, f⟩⟩ := x
      simp only at hin hpl
      have hb1 : Below wr.heap.size wr (wr.alloc (.cells #[.int .i64 x0, .int .i64 k0, .int .i64 k1, .int .i64 k2, .slice B q f] 75)) := below_alloc (Below.refl _ _) _
      have hb1d := hb1.drew
      have HCALL := Lib.hid (l12Own_any ⟨⟨k0, k1, k2, sp⟩, B, q, f⟩ _ (hin.below hb1d) hpl)
      have HKEEP := Lib.hid (show ∀ W', Below (wr.alloc (.cells #[.int .i64 x0, .int .i64 k0, .int .i64 k1, .int .i64 k2, .slice B q f] 75)).heap.size (wr.alloc (.cells #[.int .i64 x0, .int .i64 k0, .int .i64 k1, .int .i64 k2, .slice B q f] 75)) W' → W'.cell? ⟨wr.heap.size, 0, none⟩ = some (.int .i64 x0) ∧ W'.cell? ⟨wr.heap.size, 1, none⟩ = some (.int .i64 k0) ∧ W'.cell? ⟨wr.heap.size, 2, none⟩ = some (.int .i64 k1) ∧ W'.cell? ⟨wr.heap.size, 3, none⟩ = some (.int .i64 k2) ∧ W'.cell? ⟨wr.heap.size, 4, none⟩ = some (.slice B q f) from fun W' hW' => Ent.cellsNew wr ⟨x0, ⟨⟨k0, k1, k2, sp⟩, B, q, f⟩⟩ 75 ⟨W', hW'⟩)
      have HBX := Lib.hid (show LitAt (wr.alloc (.cells #[.int .i64 x0, .int .i64 k0, .int .i64 k1, .int .i64 k2, .slice B q f] 75)).drew wr.heap.size 75 [.int .i64 x0, .int .i64 k0, .int .i64 k1, .int .i64 k2, .slice B q f] from LitAt.new _ _ _ _ rfl)
      have hR1 : Below (wr.alloc (.cells #[.int .i64 x0, .int .i64 k0, .int .i64 k1, .int .i64 k2, .slice B q f] 75)).heap.size (wr.alloc (.cells #[.int .i64 x0, .int .i64 k0, .int .i64 k1, .int .i64 k2, .slice B q f] 75)) (wr.alloc (.cells #[.int .i64 x0, .int .i64 k0, .int .i64 k1, .int .i64 k2, .slice B q f] 75)).drew := (Below.refl _ _).drew
      have HB1 := Lib.hid hb1d
      have hw1 : IntKind.i64.wrap ((k : Int) + 1) = (k : Int) + 1 := by rw [IntKind.wrap_i64]; omega
      clear hat hk hx hin hb1 hb1d
      go_wp2_with ((with_reducible refine at_load_ 75 ?_); refine Ent.loadImpl rfl _ rfl b (off + k * 5) rfl _ hr ?_)
      go_region_held3 (fun w' => w'.cell? ⟨wr.heap.size, 0, none⟩ = some (.int .i64 x0) ∧ w'.cell? ⟨wr.heap.size, 1, none⟩ = some (.int .i64 k0) ∧ w'.cell? ⟨wr.heap.size, 2, none⟩ = some (.int .i64 k1) ∧ w'.cell? ⟨wr.heap.size, 3, none⟩ = some (.int .i64 k2) ∧ w'.cell? ⟨wr.heap.size, 4, none⟩ = some (.slice B q f))
        (first | (with_reducible exact hk4) | exact HKEEP.out _ (by first | (with_reducible exact hR3) | (with_reducible exact hR2) | (with_reducible exact hR1)))
        (first
          | (go_at_call 70; refine HCALL.out.mono ?_; rintro e w2 ⟨⟨kk, A', n', c'⟩, he, hk', row2, hb2⟩; simp only at hk'; subst hk'; obtain rfl : e = .returned (.agg #[.int .i64 k0, .int .i64 k1, .int .i64 k2, .slice A' n' c']) := he; have row2 : Row (wr.alloc (.cells #[.int .i64 x0, .int .i64 k0, .int .i64 k1, .int .i64 k2, .slice B q f] 75)).drew.heap.size 89 2 w2 (.slice A' n' c') (sp.map Punch.lst) := row2; have hR2 := step_ hR1 (Nat.le_refl _) hb2; have hR3 := below_alloc hR2 (.cells #[.int .i64 ((k : Int) + 1), .bool (x0 != 4), .bool false, .int .i64 k0, .int .i64 k1, .int .i64 k2, .slice A' n' c'] 94); have hB2 := step_ HB1.out (Nat.le_refl _) hb2; have hB3 := below_alloc hB2 (.cells #[.int .i64 ((k : Int) + 1), .bool (x0 != 4), .bool false, .int .i64 k0, .int .i64 k1, .int .i64 k2, .slice A' n' c'] 94); have HRO := Lib.hid (((HR.out.1.below HB1.out).below hb2).alloc (.cells #[.int .i64 ((k : Int) + 1), .bool (x0 != 4), .bool false, .int .i64 k0, .int .i64 k1, .int .i64 k2, .slice A' n' c'] 94)); have HSR := Lib.hid (Src.lit w2 94 (Run.lst ⟨(k : Int) + 1, x0 != 4, false, ⟨⟨k0, k1, k2, sp⟩, A', n', c'⟩⟩) w2.heap.size rfl rfl (Run.one _)))
          | (refine tyRun.stepAppendR (by rfl) _ _ (by rfl) (w.heap.size + 1) _ _ (by rfl) HRO.out _ 1 1 _ (by rfl) HSR.out HLL.out (Nat.le_trans HSZ.out hB3.size) ?_; intro o4 w4 hrow4 hg4 hat4; have HBX4 := Lib.hid (((HBX.out.below hb2).alloc (.cells #[.int .i64 ((k : Int) + 1), .bool (x0 != 4), .bool false, .int .i64 k0, .int .i64 k1, .int .i64 k2, .slice A' n' c'] 94)).grown hg4 (fun e => by have := (HR.out.1.lt _ e).2; omega)); have hk4 := ent_keep HBX4.out))
      have hpush := RunR.push (z := ⟨(k : Int) + 1, x0 != 4, false, ⟨⟨k0, k1, k2, sp⟩, A', n', c'⟩⟩) HR.out HSZ.out hB3 (Row.alloc (Row.mono (base' := wr.heap.size) row2 (by simp)) _) hrow4 hg4 hat4
      have HPSH := Lib.hid hpush
      have HB4 := Lib.hid ((step_ HB.out (Nat.le_refl _) hB3).grown hg4 (Nat.le_trans HB.out.size hB3.size) (fun q hq => by rw [HZ.out]; exact (HR.out.1.lt q hq).1))
      clear hpush hrow4 hg4 hat4 row2 hb2 hB2 hB3 hR1 hR2 hR3 hk4
      go_wp2
      go_roundw
      case rel => exact ⟨k + 1, zs ++ [(⟨(k : Int) + 1, x0 != 4, false, ⟨⟨k0, k1, k2, sp⟩, A', n', c'⟩⟩ : Run)], by omega, by go_num, by show _ = _; simp; exact HZL.out, by show _ = _; rw [HSK.out, List.map_append, HZK.out]; rfl, HPSH.out, HB4.out⟩
      case measure => simp [intOf]; omega
    · obtain rfl : k = xs.length := by omega
      rw [List.take_length] at HZK
      go_wp2
      go_ret2
      exact ⟨_, zs, rfl, HZK.out, HR.out.mono (by omega), HBW.out⟩
end Go.Proofs.Ytfmgnbkneccekaa
