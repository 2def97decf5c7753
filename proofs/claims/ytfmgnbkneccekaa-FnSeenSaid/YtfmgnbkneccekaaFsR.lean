/- RunsOf on both halves, the test on runs, and the plain facts on the runs of a closed race. No condition. -/
import Derived.Test.YtfmgnbkneccekaaRcC
import Derived.Test.YtfmgnbkneccekaaRcF
import Derived.Test.YtfmgnbkneccekaaRunM
import Derived.Test.YtfmgnbkneccekaaRn
import Derived.Test.YtfmgnbkneccekaaCdB
import Derived.Test.YtfmgnbkneccekaaFrQ
/- RunsOf, the reference. No condition. -/
namespace Go.Proofs.Ytfmgnbkneccekaa
open Go Go.RowKit

def runOfE (i : Nat) (e : EntK) : RunK := ⟨(i : Int) + 1, e.state != 4, false, e.card⟩
noncomputable def runsB (k : RaceK) : Bool := goodRace k && k.closed
noncomputable def runsV (k : RaceK) : List RunK := if runsB k = true then k.field.mapIdx runOfE else []
theorem mapIdx_take {α β : Type} (f : Nat → α → β) (xs : List α) {k : Nat} (h : k < xs.length) : (xs.take (k + 1)).mapIdx f = (xs.take k).mapIdx f ++ [f k xs[k]] := by
  rw [List.take_succ_eq_append_getElem h, List.mapIdx_append]
  simp [Nat.min_eq_left (Nat.le_of_lt h)]
theorem entOk_punches {cl : Int} {cd : Bool} {i : Nat} {e : EntK} (h : entOk cl cd i e = true) : e.card.punches.length ≤ 12 := by
  unfold entOk at h
  have hz : zeroCd e.card = true → e.card.punches.length ≤ 12 := fun h => by
    simp [zeroCd] at h
    simp [h]
  have hr : runningOk cl i e = true → e.card.punches.length ≤ 12 := fun h => by
    simp only [runningOk, Bool.and_eq_true] at h
    exact cardOk_len h.1.1.1
  split at h
  · exact hz (by simp only [Bool.and_eq_true] at h; exact h.1)
  split at h
  · exact hz (by simp only [Bool.and_eq_true] at h; exact h.1)
  split at h
  · exact hr (by simp only [Bool.and_eq_true] at h; exact h.2)
  split at h
  · exact hr h
  · cases h
theorem race_punches {k : RaceK} (h : goodRace k = true) : ∀ e ∈ k.field, e.card.punches.length ≤ 12 := by
  intro e he
  obtain ⟨j, hj, rfl⟩ := List.getElem_of_mem he
  exact entOk_punches ((goodRace_iff.1 h).2.2 j hj)
theorem runsV_small (k : RaceK) : (runsV k).length ≤ 1048576 ∧ ∀ e ∈ runsV k, e.card.punches.length ≤ 1048576 := by
  unfold runsV runsB
  split
  · rename_i h
    simp only [Bool.and_eq_true] at h
    have h1 := race_len h.1
    refine ⟨by simp; omega, fun e he => ?_⟩
    obtain ⟨j, hj, rfl⟩ := List.getElem_of_mem he
    simp only [List.getElem_mapIdx, runOfE]
    have := race_punches h.1 (k.field[j]'(by simpa using hj)) (List.getElem_mem _)
    omega
  · exact ⟨by simp, by simp⟩

set_option maxRecDepth 100000 in
set_option maxHeartbeats 4000000 in
theorem spec_RunsOf (p : Race) (k : RaceK) (w : World) (hk : p.k = k) (h : p.In w) :
    Calls Try.prog 31 #[p.val] w fun e w' => ∃ v' zs, e = .returned (.tuple #[v', .bool (runsB k)]) ∧ zs.map Run.k = runsV k ∧ RunR w.heap.size w' v' zs ∧ Below w.heap.size w w' := by
  subst hk
  have hpl := h.len
  obtain ⟨cl, cd, A, n, c, xs⟩ := p
  simp only at hpl
  subst hpl
  have hs : EntS w (.slice A xs.length c) xs := h
  have HIN := Lib.hid hs.2
  obtain ⟨A', c', hv, hc, hm, hk⟩ := hs.1.open_
  simp only [Value.slice.injEq] at hv
  obtain ⟨rfl, _, rfl⟩ := hv
  have hW : Below w.heap.size w ((w.alloc (.cells #[.int .i64 cl, .bool cd, .slice A xs.length c] 24)).alloc (.cells #[] 94)) := below_alloc (below_alloc (Below.refl _ _) _) _
  have HG := Lib.hid (l21Good_any _ _ (h.below hW))
  have hrc := Race.cellsNew w ⟨cl, cd, A, xs.length, c, xs⟩ 24
  have HRC := Lib.hid (fun W hW => hrc ⟨W, hW⟩)
  have hr0 : RunR (w.heap.size + 1) ((w.alloc (.cells #[.int .i64 cl, .bool cd, .slice A xs.length c] 24)).alloc (.cells #[] 94)) (.slice (some ⟨w.heap.size + 1, 0, none⟩) 0 0) [] := RunR.lit (by simp) (by omega)
  have HW := Lib.hid hW
  have HR0 := Lib.hid hr0
  have hrc0 := hrc ⟨_, below_alloc (Below.refl _ _) (.cells #[] 94)⟩
  have HB0 := Lib.hid (show Below (w.alloc (.cells #[.int .i64 cl, .bool cd, .slice A xs.length c] 24)).heap.size (w.alloc (.cells #[.int .i64 cl, .bool cd, .slice A xs.length c] 24)) ((w.alloc (.cells #[.int .i64 cl, .bool cd, .slice A xs.length c] 24)).alloc (.cells #[] 94)) from below_alloc (Below.refl _ _) _)
  have HZ := Lib.hid (show (w.alloc (.cells #[.int .i64 cl, .bool cd, .slice A xs.length c] 24)).heap.size = w.heap.size + 1 by simp)
  simp only at hrc0
  show Calls Try.prog 31 #[.agg #[.int .i64 cl, .bool cd, .slice A xs.length c]] w _
  by_cases hB : runsB (Race.k ⟨cl, cd, A, xs.length, c, xs⟩) = true
  rotate_left
  · have hB' : runsB (Race.k ⟨cl, cd, A, xs.length, c, xs⟩) = false := by simpa using hB
    have HV := Lib.hid (show runsV (Race.k ⟨cl, cd, A, xs.length, c, xs⟩) = [] by simp [runsV, hB'])
    rw [hB', HV.out]
    have hgc : goodRace (Race.k ⟨cl, cd, A, xs.length, c, xs⟩) = false ∨ cd = false := by
      have h1 := hB'
      unfold runsB at h1
      rcases Bool.and_eq_false_iff.1 h1 with h2 | h2
      · exact .inl h2
      · exact .inr h2
    obtain ⟨q, hq⟩ : ∃ q, goodRace (Race.k ⟨cl, cd, A, xs.length, c, xs⟩) = q := ⟨_, rfl⟩
    rw [hq] at HG hgc
    have HGC := Lib.hid hgc
    clear hq hB hB' hgc hs h hW hk hrc hr0
    cases q
    · go_enter Try.func31, Try.ntmps31
      go_wp2_with (go_at_call 64; refine HG.out.mono ?_; rintro e w1 ⟨rfl, hb1⟩; have hrc1 := HRC.out _ (step_ HB0.out (Nat.le_refl _) hb1); simp only at hrc1)
      go_ret2
      exact ⟨_, [], rfl, rfl, (HR0.out.below hb1).mono (by omega), step_ HW.out (Nat.le_refl _) hb1⟩
    · obtain rfl : cd = false := by simpa using HGC.out
      go_enter Try.func31, Try.ntmps31
      go_wp2_with (go_at_call 64; refine HG.out.mono ?_; rintro e w1 ⟨rfl, hb1⟩; have hrc1 := HRC.out _ (step_ HB0.out (Nat.le_refl _) hb1); simp only at hrc1)
      go_ret2
      exact ⟨_, [], rfl, rfl, (HR0.out.below hb1).mono (by omega), step_ HW.out (Nat.le_refl _) hb1⟩
  have HV := Lib.hid (show runsV (Race.k ⟨cl, cd, A, xs.length, c, xs⟩) = (xs.map Ent.k).mapIdx runOfE by simp only [runsV, hB]; rfl)
  rw [hB, HV.out]
  simp only [runsB, Bool.and_eq_true] at hB
  obtain ⟨hg, hcd⟩ := hB
  simp only [Race.k] at hcd
  subst hcd
  have hl := (race_len hg).2
  simp only [Race.k, List.length_map] at hl
  have HPU := Lib.hid (show ∀ z ∈ xs, z.card.k.punches.length ≤ 1048577 from fun z hz => by
    have := race_punches hg z.k (by simp only [Race.k]; exact List.mem_map_of_mem hz)
    simp only [Ent.k] at this
    omega)
  rw [hg] at HG
  clear hg hs h hW hrc hr0
  go_enter Try.func31, Try.ntmps31
  go_wp2_with (go_at_call 64; refine HG.out.mono ?_; rintro e w1 ⟨rfl, hb1⟩; have hrc1 := HRC.out _ (step_ HB0.out (Nat.le_refl _) hb1); simp only at hrc1)
  have HB1 := Lib.hid (step_ HB0.out (Nat.le_refl _) hb1)
  have HR1 := Lib.hid (HR0.out.below hb1)
  clear hrc0 hrc1 hb1
  go_loopw [4, 5] (fun o i wr => ∃ (k : Nat) (zs : List Run), k ≤ xs.length ∧ i = .int .i64 k ∧ Hid (zs.length = k) ∧ Hid (zs.map Run.k = ((xs.take k).map Ent.k).mapIdx runOfE) ∧ Hid (RunR (w.heap.size + 1) wr o zs) ∧ Hid (Below (w.alloc (.cells #[.int .i64 cl, .bool true, .slice A xs.length c] 24)).heap.size (w.alloc (.cells #[.int .i64 cl, .bool true, .slice A xs.length c] 24)) wr))
    (fun _ i _ => xs.length - (intOf i).toNat)
  case atStart => exact ⟨0, [], Nat.zero_le _, rfl, rfl, rfl, HR1.out, HB1.out⟩
  case round =>
    clear HR1 HB1
    obtain ⟨k, zs, hkl, rfl, HZL, HZK, HR, HB⟩ := hrel
    have hrcr := HRC.out _ HB.out
    try simp only at hrcr
    have HBW := Lib.hid (step_ (below_alloc (Below.refl w.heap.size w) _) (Nat.le_refl _) HB.out)
    by_cases hlt : k < xs.length
    · obtain ⟨b, off, rfl, hat⟩ := flat_at hk (by omega)
      have hr := rangeAt_below (hat k hlt) HBW.out
      have hin := (HIN.out _ (List.getElem_mem hlt)).below HBW.out
      have hpl := HPU.out _ (List.getElem_mem hlt)
      have HSK := Lib.hid (show ((xs.take (k + 1)).map Ent.k).mapIdx runOfE = ((xs.take k).map Ent.k).mapIdx runOfE ++ [runOfE k xs[k].k] by
        rw [List.take_succ_eq_append_getElem hlt, List.map_append, List.mapIdx_append]
        simp [Nat.min_eq_left (Nat.le_of_lt hlt)])
      have HLL := Lib.hid (show (zs.map Run.lst).length + 1 ≤ 2147483648 by rw [List.length_map, HZL.out]; omega)
      have HSZ := Lib.hid (show w.heap.size + 1 ≤ wr.heap.size by have := HB.out.size; rw [HZ.out] at this; exact this)
      obtain ⟨x, hx⟩ : ∃ x, x = xs[k] := ⟨_, rfl⟩
      rw [← hx] at hr hin hpl HSK
      obtain ⟨x0, ⟨⟨k0, k1, k2, sp⟩, B, q, f⟩⟩ := x
      simp only at hin hpl
      have hb1 : Below wr.heap.size wr (wr.alloc (.cells #[.int .i64 x0, .int .i64 k0, .int .i64 k1, .int .i64 k2, .slice B q f] 75)) := below_alloc (Below.refl _ _) _
      have hb1d := hb1.drew
      have HCALL := Lib.hid (l12Own_any ⟨⟨k0, k1, k2, sp⟩, B, q, f⟩ _ (hin.below hb1d) hpl)
      have HKEEP := Lib.hid (show ∀ W', Below (wr.alloc (.cells #[.int .i64 x0, .int .i64 k0, .int .i64 k1, .int .i64 k2, .slice B q f] 75)).heap.size (wr.alloc (.cells #[.int .i64 x0, .int .i64 k0, .int .i64 k1, .int .i64 k2, .slice B q f] 75)) W' → W'.cell? ⟨wr.heap.size, 0, none⟩ = some (.int .i64 x0) ∧ W'.cell? ⟨wr.heap.size, 1, none⟩ = some (.int .i64 k0) ∧ W'.cell? ⟨wr.heap.size, 2, none⟩ = some (.int .i64 k1) ∧ W'.cell? ⟨wr.heap.size, 3, none⟩ = some (.int .i64 k2) ∧ W'.cell? ⟨wr.heap.size, 4, none⟩ = some (.slice B q f) from fun W' hW' => Ent.cellsNew wr ⟨x0, ⟨⟨k0, k1, k2, sp⟩, B, q, f⟩⟩ 75 ⟨W', hW'⟩)
      have HBX := Lib.hid (show LitAt (wr.alloc (.cells #[.int .i64 x0, .int .i64 k0, .int .i64 k1, .int .i64 k2, .slice B q f] 75)).drew wr.heap.size 75 [.int .i64 x0, .int .i64 k0, .int .i64 k1, .int .i64 k2, .slice B q f] from LitAt.new _ _ _ _ rfl)
      have hR1 : Below (wr.alloc (.cells #[.int .i64 x0, .int .i64 k0, .int .i64 k1, .int .i64 k2, .slice B q f] 75)).heap.size (wr.alloc (.cells #[.int .i64 x0, .int .i64 k0, .int .i64 k1, .int .i64 k2, .slice B q f] 75)) (wr.alloc (.cells #[.int .i64 x0, .int .i64 k0, .int .i64 k1, .int .i64 k2, .slice B q f] 75)).drew := (Below.refl _ _).drew
      have HB1 := Lib.hid hb1d
      have hw1 : IntKind.i64.wrap ((k : Int) + 1) = (k : Int) + 1 := by rw [IntKind.wrap_i64]; omega
      clear hat hk hx hin hb1 hb1d
      go_wp2_with ((with_reducible refine at_load_ 75 ?_); refine Ent.loadImpl rfl _ rfl b (off + k * 5) rfl _ hr ?_)
      go_region_held3 (fun w' => w'.cell? ⟨wr.heap.size, 0, none⟩ = some (.int .i64 x0) ∧ w'.cell? ⟨wr.heap.size, 1, none⟩ = some (.int .i64 k0) ∧ w'.cell? ⟨wr.heap.size, 2, none⟩ = some (.int .i64 k1) ∧ w'.cell? ⟨wr.heap.size, 3, none⟩ = some (.int .i64 k2) ∧ w'.cell? ⟨wr.heap.size, 4, none⟩ = some (.slice B q f))
        (first | (with_reducible exact hk4) | exact HKEEP.out _ (by first | (with_reducible exact hR3) | (with_reducible exact hR2) | (with_reducible exact hR1)))
        (first
          | (go_at_call 70; refine HCALL.out.mono ?_; rintro e w2 ⟨⟨kk, A', n', c'⟩, he, hk', row2, hb2⟩; simp only at hk'; subst hk'; obtain rfl : e = .returned (.agg #[.int .i64 k0, .int .i64 k1, .int .i64 k2, .slice A' n' c']) := he; have row2 : Row (wr.alloc (.cells #[.int .i64 x0, .int .i64 k0, .int .i64 k1, .int .i64 k2, .slice B q f] 75)).drew.heap.size 89 2 w2 (.slice A' n' c') (sp.map Punch.lst) := row2; have hR2 := step_ hR1 (Nat.le_refl _) hb2; have hR3 := below_alloc hR2 (.cells #[.int .i64 ((k : Int) + 1), .bool (x0 != 4), .bool false, .int .i64 k0, .int .i64 k1, .int .i64 k2, .slice A' n' c'] 94); have hB2 := step_ HB1.out (Nat.le_refl _) hb2; have hB3 := below_alloc hB2 (.cells #[.int .i64 ((k : Int) + 1), .bool (x0 != 4), .bool false, .int .i64 k0, .int .i64 k1, .int .i64 k2, .slice A' n' c'] 94); have HRO := Lib.hid (((HR.out.1.below HB1.out).below hb2).alloc (.cells #[.int .i64 ((k : Int) + 1), .bool (x0 != 4), .bool false, .int .i64 k0, .int .i64 k1, .int .i64 k2, .slice A' n' c'] 94)); have HSR := Lib.hid (Src.lit w2 94 (Run.lst ⟨(k : Int) + 1, x0 != 4, false, ⟨⟨k0, k1, k2, sp⟩, A', n', c'⟩⟩) w2.heap.size rfl rfl (Run.one _)))
          | (refine tyRun.stepAppendR (by rfl) _ _ (by rfl) (w.heap.size + 1) _ _ (by rfl) HRO.out _ 1 1 _ (by rfl) HSR.out HLL.out (Nat.le_trans HSZ.out hB3.size) ?_; intro o4 w4 hrow4 hg4 hat4; have HBX4 := Lib.hid (((HBX.out.below hb2).alloc (.cells #[.int .i64 ((k : Int) + 1), .bool (x0 != 4), .bool false, .int .i64 k0, .int .i64 k1, .int .i64 k2, .slice A' n' c'] 94)).grown hg4 (fun e => by have := (HR.out.1.lt _ e).2; omega)); have hk4 := ent_keep HBX4.out))
      have hpush := RunR.push (z := ⟨(k : Int) + 1, x0 != 4, false, ⟨⟨k0, k1, k2, sp⟩, A', n', c'⟩⟩) HR.out HSZ.out hB3 (Row.alloc (Row.mono (base' := wr.heap.size) row2 (by simp)) _) hrow4 hg4 hat4
      have HPSH := Lib.hid hpush
      have HB4 := Lib.hid ((step_ HB.out (Nat.le_refl _) hB3).grown hg4 (Nat.le_trans HB.out.size hB3.size) (fun q hq => by rw [HZ.out]; exact (HR.out.1.lt q hq).1))
      clear hpush hrow4 hg4 hat4 row2 hb2 hB2 hB3 hR1 hR2 hR3 hk4
      go_wp2
      go_roundw
      case rel => exact ⟨k + 1, zs ++ [(⟨(k : Int) + 1, x0 != 4, false, ⟨⟨k0, k1, k2, sp⟩, A', n', c'⟩⟩ : Run)], by omega, by go_num, by show _ = _; simp; exact HZL.out, by show _ = _; rw [HSK.out, List.map_append, HZK.out]; rfl, HPSH.out, HB4.out⟩
      case measure => simp [intOf]; omega
    · obtain rfl : k = xs.length := by omega
      rw [List.take_length] at HZK
      go_wp2
      go_ret2
      exact ⟨_, zs, rfl, HZK.out, HR.out.mono (by omega), HBW.out⟩
end Go.Proofs.Ytfmgnbkneccekaa
/- RunsOf, the program's. No condition. -/
namespace Go.Proofs.Ytfmgnbkneccekaa
open Go Go.RowKit

def asRun (i : Nat) (z : Ent) : Run := ⟨(i : Int) + 1, z.state != 4, false, z.card⟩
theorem asRun_k (ys : List Ent) : (ys.mapIdx asRun).map Run.k = (ys.map Ent.k).mapIdx runOfE := by
  apply List.ext_getElem
  · simp
  · intro i h1 h2
    simp only [List.getElem_map, List.getElem_mapIdx]
    rfl
theorem runR_of_ent {base b2 : Nat} {w : World} {v o : Value} {ys : List Ent} (hr : Row base 94 7 w o ((ys.mapIdx asRun).map Run.lst)) (he : EntR b2 w v ys) (hb : base ≤ b2) (hne : ∀ q, EntBlk v ys q → o.ownBlock ≠ some q) : RunR base w o (ys.mapIdx asRun) := by
  refine ⟨hr, fun z hz => ?_, ?_⟩
  · obtain ⟨j, hj, rfl⟩ := List.getElem_of_mem hz
    rw [List.getElem_mapIdx]
    have hj' : j < ys.length := by simpa using hj
    have h1 := he.2.1 _ (List.getElem_mem hj')
    refine ⟨h1.1.mono hb, ?_⟩
    refine (Classical.em ((asRun j ys[j]).card.sv.ownBlock = none)).elim .inl fun hnn => .inr fun e => ?_
    obtain ⟨q, hq⟩ := Option.ne_none_iff_exists'.1 hnn
    exact hne q (.inr ⟨_, List.getElem_mem hj', hq⟩) (e ▸ hq)
  · rw [List.pairwise_iff_getElem]
    intro i j hi hj hij
    simp only [List.getElem_mapIdx]
    have h1 := List.pairwise_iff_getElem.1 he.2.2 i j (by simpa using hi) (by simpa using hj) hij
    exact h1

set_option maxRecDepth 100000 in
set_option maxHeartbeats 4000000 in
theorem impl_RunsOf (p : Race) (k : RaceK) (w : World) (hk : p.k = k) (h : p.In w) :
    Calls Try.prog 32 #[p.val] w fun e w' => ∃ v' zs, e = .returned (.tuple #[v', .bool (runsB k)]) ∧ zs.map Run.k = runsV k ∧ RunR w.heap.size w' v' zs ∧ Below w.heap.size w w' := by
  subst hk
  have hpl := h.len
  obtain ⟨cl, cd, A, n, c, xs⟩ := p
  simp only at hpl
  subst hpl
  have hW : Below w.heap.size w (w.alloc (.cells #[.int .i64 cl, .bool cd, .slice A xs.length c] 24)) := below_alloc (Below.refl _ _) _
  have HG := Lib.hid (IsRace_any _ _ (h.below hW))
  have hrc := Race.cellsNew w ⟨cl, cd, A, xs.length, c, xs⟩ 24
  have HRC := Lib.hid (fun W hW => hrc ⟨W, hW⟩)
  have HW := Lib.hid hW
  show Calls Try.prog 32 #[.agg #[.int .i64 cl, .bool cd, .slice A xs.length c]] w _
  by_cases hB : runsB (Race.k ⟨cl, cd, A, xs.length, c, xs⟩) = true
  rotate_left
  · have hB' : runsB (Race.k ⟨cl, cd, A, xs.length, c, xs⟩) = false := by simpa using hB
    have HV := Lib.hid (show runsV (Race.k ⟨cl, cd, A, xs.length, c, xs⟩) = [] by simp [runsV, hB'])
    rw [hB', HV.out]
    have hgc : goodRace (Race.k ⟨cl, cd, A, xs.length, c, xs⟩) = false ∨ cd = false := by
      have h1 := hB'
      unfold runsB at h1
      rcases Bool.and_eq_false_iff.1 h1 with h2 | h2
      · exact .inl h2
      · exact .inr h2
    obtain ⟨q, hq⟩ : ∃ q, goodRace (Race.k ⟨cl, cd, A, xs.length, c, xs⟩) = q := ⟨_, rfl⟩
    rw [hq] at HG hgc
    have HGC := Lib.hid hgc
    clear hq hB hB' hgc h hW hrc
    cases q
    · go_enter Try.func32, Try.ntmps32
      go_wp2_with (go_at_call 21; refine HG.out.mono ?_; rintro e w1 ⟨rfl, hb1⟩; have hrc1 := HRC.out _ hb1; try simp only at hrc1)
      go_ret2
      exact ⟨_, [], rfl, rfl, RunR.nil, step_ HW.out (Nat.le_refl _) hb1⟩
    · obtain rfl : cd = false := by simpa using HGC.out
      go_enter Try.func32, Try.ntmps32
      go_wp2_with (go_at_call 21; refine HG.out.mono ?_; rintro e w1 ⟨rfl, hb1⟩; have hrc1 := HRC.out _ hb1; try simp only at hrc1)
      go_ret2
      exact ⟨_, [], rfl, rfl, RunR.nil, step_ HW.out (Nat.le_refl _) hb1⟩
  have HV := Lib.hid (show runsV (Race.k ⟨cl, cd, A, xs.length, c, xs⟩) = (xs.map Ent.k).mapIdx runOfE by simp only [runsV, hB]; rfl)
  rw [hB, HV.out]
  simp only [runsB, Bool.and_eq_true] at hB
  obtain ⟨hg, hcd⟩ := hB
  simp only [Race.k] at hcd
  subst hcd
  have hl := race_len hg
  simp only [Race.k, List.length_map] at hl
  obtain ⟨hl1, hl8⟩ := hl
  have HPU := Lib.hid (show ∀ z ∈ xs, z.card.k.punches.length ≤ 1048577 from fun z hz => by
    have := race_punches hg z.k (by simp only [Race.k]; exact List.mem_map_of_mem hz)
    simp only [Ent.k] at this
    omega)
  have HNEW := Lib.hid (fun W (hW : Below w.heap.size w W) => newRace_any _ W (h.below hW) (by show xs.length ≤ _; omega) HPU.out)
  rw [hg] at HG
  have hrc0 := hrc ⟨_, Below.refl _ _⟩
  try simp only at hrc0
  have hfd : ∀ (c : Int) (d : Bool) (A : Option Addr) (n m : Nat) (w : World), (Instr.field 24 (.agg #[.int .i64 c, .bool d, .slice A n m]) 2).run Try.prog w = .ok (.slice A n m) w := fun _ _ _ _ _ _ => by kernel_rfl
  clear hg h hW hrc
  go_enter Try.func32, Try.ntmps32
  go_wp2_with (first
    | (go_at_call 21; refine HG.out.mono ?_; rintro e w1 ⟨rfl, hb1⟩; have hrc1 := HRC.out _ hb1; have hrc2 := HRC.out _ (below_alloc hb1 (.cells #[] 94)); try simp only at hrc1 hrc2)
    | (go_at_call 71; refine (HNEW.out _ (below_alloc (step_ HW.out (Nat.le_refl _) hb1) (.cells #[] 94))).mono ?_; rintro e w2 ⟨⟨cl2, cd2, A2, n2, c2, ys⟩, he, hk2, hR2, hb2⟩; obtain rfl : e = .returned (.agg #[.int .i64 cl2, .bool cd2, .slice A2 n2 c2]) := he))
  have hn2 : n2 = ys.length := RaceR.s hR2 |>.len
  subst hn2
  simp only [Race.k, RaceK.mk.injEq] at hk2
  obtain ⟨rfl, rfl, hkk⟩ := hk2
  have hyl : ys.length = xs.length := by simpa using congrArg List.length hkk
  have HR : EntR (w1.alloc (.cells #[] 94)).heap.size w2 (.slice A2 ys.length c2) ys := hR2
  have hsz1 : (w1.alloc (.cells #[] 94)).heap.size = w1.heap.size + 1 := by simp
  have hsz0 : w.heap.size + 1 ≤ w1.heap.size := by have := hb1.size; simpa using this
  rw [hsz1] at HR
  obtain ⟨g2, cap2, he2, hbg2, hg2, hcap2⟩ := HR.1.form (by simp; omega)
  simp only [Value.slice.injEq] at he2
  obtain ⟨rfl, hq2, rfl⟩ := he2
  clear hq2 hcap2
  have hrow0 : Row (w.heap.size + 1) 94 7 w2 (.slice (some ⟨w1.heap.size, 0, none⟩) 0 0) [] := Row.below (Row.lit_nil w1 94 7 hsz0) hb2
  have hne0 : ∀ q, EntBlk (.slice (some ⟨g2, 0, none⟩) ys.length c2) ys q → (Value.slice (some ⟨w1.heap.size, 0, none⟩) 0 0).ownBlock ≠ some q := fun q hq e => by
    have h1 := (HR.lt q hq).1
    simp [Value.ownBlock] at e
    omega
  have hbw : Below w.heap.size w w2 := step_ (below_alloc (step_ HW.out (Nat.le_refl _) hb1) (.cells #[] 94)) (Nat.le_refl _) hb2
  have hz2 : w.heap.size + 1 ≤ w2.heap.size := by have := hb2.size; rw [hsz1] at this; omega
  have HKK := Lib.hid hkk
  have HY0 := Lib.hid HR
  have HR0 := Lib.hid hrow0
  have HN0 := Lib.hid hne0
  have HB0 := Lib.hid hbw
  have HL8 := Lib.hid (show ys.length ≤ 8 by omega)
  clear HR hR2 hkk hrow0 hne0 hbw hrc0 hrc1 hrc2 hb1 hb2 hyl hsz1
  go_wp2
  go_loopw [4, 20] (fun o i wr => ∃ k : Nat, k ≤ ys.length ∧ i = .int .i64 k ∧ Hid (Row (w.heap.size + 1) 94 7 wr o (((ys.take k).mapIdx asRun).map Run.lst)) ∧ Hid (EntR (w1.heap.size + 1) wr (.slice (some ⟨g2, 0, none⟩) ys.length c2) ys) ∧ Hid (∀ q, EntBlk (.slice (some ⟨g2, 0, none⟩) ys.length c2) ys q → o.ownBlock ≠ some q) ∧ Hid (Below w.heap.size w wr) ∧ w.heap.size + 1 ≤ wr.heap.size)
    (fun _ i _ => ys.length - (intOf i).toNat)
  case atStart => exact ⟨0, Nat.zero_le _, rfl, HR0.out, HY0.out, HN0.out, HB0.out, hz2⟩
  case round =>
    clear HR0 HY0 HN0 HB0 hz2
    obtain ⟨k, hkl, rfl, HRO, HY, HN, HB, hz⟩ := hrel
    by_cases hlt : k < ys.length
    · have hr := HY.out.1.range (k := k) (by rw [List.length_map]; exact hlt)
      rw [List.getElem_map] at hr
      have HSK := Lib.hid (show (((ys.take (k + 1)).mapIdx asRun).map Run.lst) = (((ys.take k).mapIdx asRun).map Run.lst) ++ [(asRun k ys[k]).lst] by
        rw [List.take_succ_eq_append_getElem hlt, List.mapIdx_append, List.map_append]
        simp [Nat.min_eq_left (Nat.le_of_lt hlt)])
      have HLL := Lib.hid (show (((ys.take k).mapIdx asRun).map Run.lst).length + 1 ≤ 2147483648 by have := HL8.out; simp; omega)
      have hk8 : k < 8 := by have := HL8.out; omega
      obtain ⟨pl, hpl⟩ : ∃ pl, pl = (((ys.take k).mapIdx asRun).map Run.lst) := ⟨_, rfl⟩
      rw [← hpl] at HRO HSK HLL
      obtain ⟨x, hx⟩ : ∃ x, x = ys[k] := ⟨_, rfl⟩
      rw [← hx] at hr HSK
      obtain ⟨x0, ⟨⟨k0, k1, k2, sp⟩, B, q, f⟩⟩ := x
      have hcr := Ent.cardRange (Ent.rangeNew wr ⟨x0, ⟨⟨k0, k1, k2, sp⟩, B, q, f⟩⟩ 75)
      simp only [Nat.zero_add] at hcr
      have HB2 := Lib.hid (show Below wr.heap.size wr ((wr.alloc (.cells #[.int .i64 x0, .int .i64 k0, .int .i64 k1, .int .i64 k2, .slice B q f] 75)).alloc (.cells #[.int .i64 ((k : Int) + 1), .bool (x0 != 4), .bool false, .int .i64 k0, .int .i64 k1, .int .i64 k2, .slice B q f] 94)) from below_alloc (below_alloc (Below.refl _ _) _) _)
      have HRO2 := Lib.hid (HRO.out.below HB2.out)
      have HSR := Lib.hid (Src.lit (wr.alloc (.cells #[.int .i64 x0, .int .i64 k0, .int .i64 k1, .int .i64 k2, .slice B q f] 75)) 94 (Run.lst ⟨(k : Int) + 1, x0 != 4, false, ⟨⟨k0, k1, k2, sp⟩, B, q, f⟩⟩) (wr.heap.size + 1) (by simp) rfl (Run.one _))
      have HSZ := Lib.hid (show w.heap.size + 1 ≤ ((wr.alloc (.cells #[.int .i64 x0, .int .i64 k0, .int .i64 k1, .int .i64 k2, .slice B q f] 75)).alloc (.cells #[.int .i64 ((k : Int) + 1), .bool (x0 != 4), .bool false, .int .i64 k0, .int .i64 k1, .int .i64 k2, .slice B q f] 94)).heap.size by have := HB2.out.size; omega)
      clear hpl hx
      go_wp2_with (first
        | ((with_reducible refine at_load_ 75 ?_); refine Ent.loadImpl rfl _ rfl g2 (k * 5) rfl ⟨x0, ⟨⟨k0, k1, k2, sp⟩, B, q, f⟩⟩ hr ?_)
        | ((with_reducible refine at_load_ 73 ?_); refine Card.loadImpl rfl _ rfl wr.heap.size 1 rfl ⟨⟨k0, k1, k2, sp⟩, B, q, f⟩ hcr ?_)
        | (at_builtin; refine tyRun.append rfl _ _ rfl (w.heap.size + 1) _ _ rfl HRO2.out _ 1 1 _ rfl HSR.out HLL.out HSZ.out ?_; intro o4 w4 hrow4 hg4 hat4))
      have HB4 := Lib.hid ((step_ HB.out (Nat.le_refl _) HB2.out).grown hg4 (Nat.le_trans HB.out.size HB2.out.size) (fun q hq => by have := (HRO.out.lt q hq).1; omega))
      have HY4 := Lib.hid (EntR.keptOff (HY.out.below HB2.out) (KeptOff.of_grown (S := fun q => Value.ownBlock u4 = some q) hg4 (fun k hk => hk)) (fun q hq => HN.out q hq))
      have HN4 := Lib.hid (show ∀ q, EntBlk (.slice (some ⟨g2, 0, none⟩) ys.length c2) ys q → o4.ownBlock ≠ some q from fun q hq e => by
        rcases hat4 with h1 | h1
        · exact HN.out q hq (h1 ▸ e)
        · rw [h1] at e
          have h2 := (HY.out.lt q hq).2
          simp at e
          omega)
      have hz4 : w.heap.size + 1 ≤ w4.heap.size := Nat.le_trans HSZ.out hg4.size
      clear hg4 hat4
      go_roundw
      case rel => exact ⟨k + 1, by omega, by go_num, by show Row _ _ _ _ _ _; rw [HSK.out]; exact hrow4, HY4.out, HN4.out, HB4.out, hz4⟩
      case measure => simp [intOf]; omega
    · obtain rfl : k = ys.length := by omega
      rw [List.take_length] at HRO
      go_wp2
      go_ret2
      exact ⟨_, _, rfl, by rw [asRun_k, HKK.out], (runR_of_ent HRO.out HY.out (by omega) HN.out).mono (by omega), HB.out⟩
end Go.Proofs.Ytfmgnbkneccekaa
/- The walk of the program's own test on runs. No condition. -/
namespace Go.Proofs.Ytfmgnbkneccekaa
open Go Go.RowKit

def runOk (k : RunK) : Bool := inB k.runner 1 99 && (if k.started = true then cardOk k.card else !k.out && zeroCd k.card)
def StandR (ks : List RunK) (k : Nat) (h : k < ks.length) : Prop := runOk ks[k] = true ∧ (0 < k → ks[k - 1].runner < ks[k].runner)
def GoodRs (ks : List RunK) : Prop := (∀ k (h : k < ks.length), StandR ks k h) ∧ ks.length ≤ 10
noncomputable def goodRs (ks : List RunK) : Bool := @decide (GoodRs ks) (Classical.propDecidable _)
theorem goodRs_iff {ks : List RunK} : goodRs ks = true ↔ GoodRs ks := by simp [goodRs]
theorem goodRs_true {ks : List RunK} (h : GoodRs ks) : goodRs ks = true := goodRs_iff.2 h
theorem goodRs_false {ks : List RunK} (h : ¬ GoodRs ks) : goodRs ks = false := by simp [goodRs, h]

set_option maxHeartbeats 2000000 in
theorem isRun_any (p : Run) (w : World) (h : p.card.In w) : Calls Try.prog 82 #[p.val] w fun e w' => e = .returned (.bool (runOk p.k)) ∧ Below w.heap.size w w' := by
  obtain ⟨h0, h1, h2, ⟨⟨r0, r1, r2, sp⟩, A, n, c⟩⟩ := p
  simp only at h
  have hW : Below w.heap.size w (w.alloc (.cells #[.int .i64 h0, .bool h1, .bool h2, .int .i64 r0, .int .i64 r1, .int .i64 r2, .slice A n c] 94)) := below_alloc (Below.refl _ _) _
  have hr := Run.cardRange (Run.rangeNew w ⟨h0, h1, h2, ⟨⟨r0, r1, r2, sp⟩, A, n, c⟩⟩ 94)
  simp only [Nat.zero_add] at hr
  show Calls Try.prog 82 #[.agg #[.int .i64 h0, .bool h1, .bool h2, .int .i64 r0, .int .i64 r1, .int .i64 r2, .slice A n c]] w fun e w' => e = .returned (.bool (runOk ⟨h0, h1, h2, ⟨r0, r1, r2, sp⟩⟩)) ∧ Below w.heap.size w w'
  obtain ⟨b1, hb1⟩ : ∃ r, inB h0 1 99 = r := ⟨_, rfl⟩
  have HC := Lib.hid (IsCard_any ⟨⟨r0, r1, r2, sp⟩, A, n, c⟩ _ (h.below hW))
  have HZ := Lib.hid (isZeroCard_any ⟨⟨r0, r1, r2, sp⟩, A, n, c⟩ _ (h.below hW))
  obtain ⟨b2, hb2⟩ : ∃ r, cardOk ⟨r0, r1, r2, sp⟩ = r := ⟨_, rfl⟩
  obtain ⟨b3, hb3⟩ : ∃ r, zeroCd ⟨r0, r1, r2, sp⟩ = r := ⟨_, rfl⟩
  simp only at HC HZ
  rw [hb2] at HC
  rw [hb3] at HZ
  have HR := Lib.hid (show runOk ⟨h0, h1, h2, ⟨r0, r1, r2, sp⟩⟩ = (b1 && (if h1 = true then b2 else !h2 && b3)) by simp [runOk, hb1, hb2, hb3])
  have HW := Lib.hid hW
  rw [HR.out]
  clear h hW hb2 hb3
  cases h1 <;> cases h2
  all_goals
    go_enter Try.func82, Try.ntmps82
    go_wp2_with (first
      | (go_at_call 59; refine (inside_is _ _ _ _ hb1 _).mono ?_; rintro e w' ⟨rfl, rfl⟩)
      | ((with_reducible refine at_load_ 73 ?_); refine Card.loadImpl rfl _ rfl w.heap.size 3 rfl ⟨⟨r0, r1, r2, sp⟩, A, n, c⟩ hr ?_)
      | (go_at_call 94; refine HC.out.mono ?_; rintro e w3 ⟨rfl, hb⟩)
      | (go_at_call 93; refine HZ.out.mono ?_; rintro e w3 ⟨rfl, hb⟩))
    all_goals
      go_ret
      first
        | exact ⟨ret_bool (by simp <;> grind), step_ HW.out (Nat.le_refl _) hb⟩
        | exact ⟨ret_bool (by simp <;> grind), HW.out⟩

set_option maxHeartbeats 2000000 in
theorem areRuns_any (xs : List Run) (v : Value) (w : World) (h : RunS w v xs) :
    Calls Try.prog 48 #[v] w fun e w' => e = .returned (.bool (goodRs (xs.map Run.k))) ∧ Below w.heap.size w w' := by
  have HI := Lib.hid h.2
  obtain ⟨A, c, rfl, hc, hm, hk⟩ := h.1.open_
  clear h
  go_enter Try.func48, Try.ntmps48
  go_wp2
  go_loopw [7] (fun i wr => ∃ k : Nat, k ≤ xs.length ∧ i = .int .i64 k ∧ Hid (∀ j (h : j < (xs.map Run.k).length), j < k → StandR (xs.map Run.k) j h) ∧ Below w.heap.size w wr)
    (fun i _ => xs.length - (intOf i).toNat)
  case atStart => exact ⟨0, Nat.zero_le _, rfl, fun j h hj => absurd hj (by omega), Below.refl _ _⟩
  case round =>
    obtain ⟨k, hkl, rfl, HS, hb⟩ := hrel
    by_cases hlt : k < xs.length
    · obtain ⟨b, off, rfl, hat⟩ := flat_at hk (by omega)
      have hlk : k < (xs.map Run.k).length := by simpa using hlt
      have hr := rangeAt_below (hat k hlt) hb
      have hin := (HI.out _ (List.getElem_mem hlt)).below hb
      have HX := Lib.hid (show ¬ StandR (xs.map Run.k) k hlk → ¬ GoodRs (xs.map Run.k) from fun hn hA => hn (hA.1 k hlk))
      have HY := Lib.hid (show StandR (xs.map Run.k) k hlk → ∀ j (h : j < (xs.map Run.k).length), j < k + 1 → StandR (xs.map Run.k) j h from fun hn j hj hjk => by
        by_cases e : j < k
        · exact HS.out j hj e
        · obtain rfl : j = k := by omega
          exact hn)
      have HST := Lib.hid (show StandR (xs.map Run.k) k hlk ↔ runOk xs[k].k = true ∧ (0 < k → (xs[k - 1]'(by omega)).runner < xs[k].runner) by simp [StandR, Run.k])
      have hpr : ∀ h0 : 0 < k, wr.rangeAt b (off + (k - 1) * 7) (xs[k - 1]'(by omega)).lst := fun h0 => rangeAt_below (hat (k - 1) (by omega)) hb
      obtain ⟨p, hp⟩ : ∃ p, p = xs[k] := ⟨_, rfl⟩
      rw [← hp] at hr hin HST
      have hWp : Below wr.heap.size wr (wr.alloc (.cells #[.int .i64 p.runner, .bool p.started, .bool p.out, .int .i64 p.card.k.number, .int .i64 p.card.k.start, .int .i64 p.card.k.finish, .slice p.card.a p.card.n p.card.c] 94)) := below_alloc (Below.refl _ _) _
      have HWP := Lib.hid hWp
      have hrn := Run.rangeNew wr p 94
      have HA := Lib.hid (fun (s : After (wr.alloc (.cells #[.int .i64 p.runner, .bool p.started, .bool p.out, .int .i64 p.card.k.number, .int .i64 p.card.k.start, .int .i64 p.card.k.finish, .slice p.card.a p.card.n p.card.c] 94))) => isRun_any p s.w' ((hin.below hWp).below s.hb))
      have hcn := Run.cellsNew wr p 94
      obtain ⟨q, hq⟩ : ∃ q, runOk p.k = q := ⟨_, rfl⟩
      rw [hq] at HA HST
      have HB0 := Lib.hid hb
      clear hat hk hp hq hin hWp
      by_cases h0 : 0 < k
      · have hpr := hpr h0
        obtain ⟨y, hy⟩ : ∃ y, y = xs[k - 1] := ⟨_, rfl⟩
        rw [← hy] at hpr HST
        have hyc := Run.cellsOld (rangeAt_below hpr HWP.out)
        clear hpr hy
        go_wp2_with ((with_reducible refine at_load_ 94 ?_); refine Run.loadImpl rfl _ rfl b (off + k * 7) rfl _ hr ?_)
        refine region_after (by kernel_rfl) (by kernel_rfl) ?_
        repeat (any_goals (first | go_big_quiet_step (((go_at_call 82; exact Calls.after (v := .bool q) _ (HA.out _)))) | (refine Run.qloadImpl rfl _ rfl wr.heap.size 0 rfl p hrn ?_) | quiet_step (((go_at_call 82; exact Calls.after (v := .bool q) _ (HA.out _)))) | (refine wpQuiet_step (fun K hK => ?_); go_simp; split <;> (refine hK _ ?_; clear hK K))))
        all_goals (refine wpQuiet_nil ?_; intro s)
        all_goals go_wp2
        all_goals first
          | (go_ret
             refine ⟨ret_bool (goodRs_false (HX.out (fun hh => ?_))).symm, step_ HB0.out (Nat.le_refl _) (step_ HWP.out (Nat.le_refl _) s.hb)⟩
             have hh := HST.out.1 hh
             have h2 := hh.2 h0
             grind)
          | (have hB2 := step_ HB0.out (Nat.le_refl _) (step_ HWP.out (Nat.le_refl _) s.hb)
             have hst : StandR (xs.map Run.k) k hlk := by
               refine HST.out.2 ⟨?_, fun h0 => ?_⟩
               · grind
               · omega
             have HY2 := Lib.hid (HY.out hst)
             clear hst
             go_roundw
             case rel => exact ⟨k + 1, by omega, by go_num, HY2.out, hB2⟩
             case measure => simp [intOf]; omega)
      · obtain rfl : k = 0 := by omega
        clear hpr h0
        go_wp2_with ((with_reducible refine at_load_ 94 ?_); refine Run.loadImpl rfl _ rfl b (off + 0 * 7) rfl _ hr ?_)
        refine region_after (by kernel_rfl) (by kernel_rfl) ?_
        repeat (any_goals (first | go_big_quiet_step (((go_at_call 82; exact Calls.after (v := .bool q) _ (HA.out _)))) | (refine Run.qloadImpl rfl _ rfl wr.heap.size 0 rfl p hrn ?_) | quiet_step (((go_at_call 82; exact Calls.after (v := .bool q) _ (HA.out _)))) | (refine wpQuiet_step (fun K hK => ?_); go_simp; split <;> (refine hK _ ?_; clear hK K))))
        all_goals (refine wpQuiet_nil ?_; intro s)
        all_goals go_wp2
        all_goals first
          | (go_ret
             refine ⟨ret_bool (goodRs_false (HX.out (fun hh => ?_))).symm, step_ HB0.out (Nat.le_refl _) (step_ HWP.out (Nat.le_refl _) s.hb)⟩
             have hh := HST.out.1 hh
             grind)
          | (have hB2 := step_ HB0.out (Nat.le_refl _) (step_ HWP.out (Nat.le_refl _) s.hb)
             have hst : StandR (xs.map Run.k) 0 hlk := by
               refine HST.out.2 ⟨?_, fun h0 => absurd h0 (by omega)⟩
               grind
             have HY2 := Lib.hid (HY.out hst)
             clear hst
             go_roundw
             case rel => exact ⟨0 + 1, by omega, by go_num, HY2.out, hB2⟩
             case measure => simp [intOf]; omega)
    · go_wp2
      go_ret
      obtain rfl : k = xs.length := by omega
      refine ⟨ret_bool ?_, hb⟩
      by_cases h10 : xs.length ≤ 10
      · rw [goodRs_true ⟨fun j hj => HS.out j hj (by simpa using hj), by simpa using h10⟩]; simp; omega
      · rw [goodRs_false (fun hg => h10 (by simpa using hg.2))]; simp; omega


end Go.Proofs.Ytfmgnbkneccekaa
/- Plain facts: the runs of a closed race are valid. No condition. -/
namespace Go.Proofs.Ytfmgnbkneccekaa
open Go Go.RowKit

theorem runs_good {k : RaceK} (h : runsB k = true) : goodRs (runsV k) = true ∧ (runsV k).length = k.field.length := by
  have hl0 : (runsV k).length = k.field.length := by unfold runsV; rw [if_pos h]; simp
  refine ⟨goodRs_true ⟨fun j hj => ?_, ?_⟩, hl0⟩
  · have hh := h
    simp only [runsB, Bool.and_eq_true] at hh
    have g := goodRace_iff.1 hh.1
    have hl := race_len hh.1
    have hr : ∀ i (hi : i < (runsV k).length), (runsV k)[i] = runOfE i (k.field[i]'(by omega)) := by
      intro i hi
      simp only [runsV, if_pos h, List.getElem_mapIdx]
    have ho := entOk_iff.1 (g.2.2 j (by omega))
    rw [hh.2] at ho
    unfold StandR
    rw [hr j hj]
    refine ⟨?_, fun h0 => ?_⟩
    · unfold runOk runOfE
      generalize k.field[j] = e at ho
      have hin : inB ((j : Int) + 1) 1 99 = true := inB_true (by omega) (by omega)
      simp only [hin, Bool.true_and]
      rcases ho with o | o | o | o
      · simp at o
      · have h4 : (e.state != 4) = false := by simp [o.1]
        simp [h4, o.2.1]
      · simp at o
      · have h4 : (e.state != 4) = true := by simp; omega
        simp [h4, (runningOk_iff.1 o.2).1]
    · rw [hr (j - 1) (by omega)]
      simp only [runOfE]
      omega
  · rw [hl0]
    simp only [runsB, Bool.and_eq_true] at h
    have := race_len h.1
    omega
end Go.Proofs.Ytfmgnbkneccekaa
