/- RunRace, the reference's. No condition. -/
import Derived.Test.YtfmgnbkneccekaaStpI
namespace Go.Proofs.Ytfmgnbkneccekaa
open Go Go.RowKit

set_option maxRecDepth 100000 in
set_option maxHeartbeats 8000000 in
theorem spec_RunRace (p : Race) (k : RaceK) (ss : List Step) (v : Value) (w : World) (hk : p.k = k) (h : p.In w) (hs : Sl (Flat Step.lst) 3 w v ss) (_ : ∀ x ∈ ss, Step.ok x) :
    Calls Try.prog 40 #[p.val, v] w fun e w' => ∃ p' : Race, e = .returned (.tuple #[.agg #[.int .i64 p'.clock, .bool p'.closed, .slice p'.a p'.n p'.c], .int .i64 (rrN k ss), .bool (rrB k ss)]) ∧ p'.k = rrV k ss ∧ RaceR w.heap.size w' p' ∧ Below w.heap.size w w' := by
  have hpl := h.len
  obtain ⟨cl, cd, A, n, c, zs⟩ := p
  simp only at hpl
  subst hpl
  obtain ⟨VA, vc, rfl, hvc, hvm, hvk⟩ := hs.open_
  have hW : Below w.heap.size w ((w.alloc (.cells #[.int .i64 cl, .bool cd, .slice A zs.length c] 24)).alloc (.cells #[.int .i64 0, .bool false, .slice none 0 0] 24)) := below_alloc (below_alloc (Below.refl _ _) _) _
  have hz : ((w.alloc (.cells #[.int .i64 cl, .bool cd, .slice A zs.length c] 24)).alloc (.cells #[.int .i64 0, .bool false, .slice none 0 0] 24)).heap.size = w.heap.size + 2 := by simp
  have hl1 : LitAt ((w.alloc (.cells #[.int .i64 cl, .bool cd, .slice A zs.length c] 24)).alloc (.cells #[.int .i64 0, .bool false, .slice none 0 0] 24)) w.heap.size 24 [.int .i64 cl, .bool cd, .slice A zs.length c] := LitAt.alloc (LitAt.new _ _ _ _ rfl) _
  have hl3 : LitAt ((w.alloc (.cells #[.int .i64 cl, .bool cd, .slice A zs.length c] 24)).alloc (.cells #[.int .i64 0, .bool false, .slice none 0 0] 24)) (w.heap.size + 1) 24 [.int .i64 0, .bool false, .slice none 0 0] := LitAt.new _ _ _ _ (by simp)
  have HB := Lib.hid hW
  have HIN := Lib.hid (h.below hW)
  have HL1 := Lib.hid hl1
  have HL3 := Lib.hid hl3
  have HZ := Lib.hid hz
  clear h hs hl1 hl3
  show Calls Try.prog 40 #[.agg #[.int .i64 cl, .bool cd, .slice A zs.length c], .slice VA ss.length vc] w _
  cases hg : goodRace k with
  | false =>
    have HT := Lib.hid (rrB_bad (ss := ss) hg)
    have HC := Lib.hid (l21Good_any _ _ HIN.out)
    rw [hk, hg] at HC
    rw [rrV_no HT.out, rrN_no HT.out, HT.out]
    go_enter Try.func40, Try.ntmps40
    have l10 := HL1.out.range 0 _ rfl
    have l11 := HL1.out.range 1 _ rfl
    have l12 := HL1.out.range 2 _ rfl
    have l30 := HL3.out.range 0 _ rfl
    have l31 := HL3.out.range 1 _ rfl
    have l32 := HL3.out.range 2 _ rfl
    have lf3 := HL3.out.frozen
    simp only [Nat.zero_add] at l10 l11 l12 l30 l31 l32
    go_wp2_with fail
    refine HC.out.mono ?_
    rintro e w' ⟨rfl, hb⟩
    replace HB := Lib.hid (step_ HB.out (Nat.le_refl _) hb)
    clear l10 l11 l12 l30 l31 l32 lf3
    replace HL1 := Lib.hid (HL1.out.below hb)
    replace HL3 := Lib.hid (HL3.out.below hb)
    replace HIN := Lib.hid (HIN.out.below hb)
    have l10 := HL1.out.range 0 _ rfl
    have l11 := HL1.out.range 1 _ rfl
    have l12 := HL1.out.range 2 _ rfl
    have l30 := HL3.out.range 0 _ rfl
    have l31 := HL3.out.range 1 _ rfl
    have l32 := HL3.out.range 2 _ rfl
    have lf3 := HL3.out.frozen
    simp only [Nat.zero_add] at l10 l11 l12 l30 l31 l32
    clear hb hW hz
    go_wp2_with fail
    refine bodyPost_ret (v := .tuple #[.agg #[.int .i64 0, .bool false, .slice none 0 0], .int .i64 0, .bool false]) (by simp [results, Try.results40, go_sem, l30, l31, l32]) rfl ⟨⟨0, false, none, 0, 0, []⟩, rfl, rfl, race_nil, ?_⟩
    repeat (first | (with_reducible exact HB.out) | (with_reducible refine Below.setCell ?_ (by simp <;> omega) _))
  | true =>
    have g := goodRace_iff.1 hg
    have hsm := good_punches g
    have hlen : zs.length ≤ 8 := by
      have := (race_len hg).2
      rw [← hk] at this
      simpa [Race.k] using this
    have hpz : ∀ z ∈ zs, z.card.k.punches.length ≤ 1048577 := fun z hz => by
      have := hsm z.k (by rw [← hk]; exact List.mem_map.2 ⟨z, hz, rfl⟩)
      simp only [Ent.k] at this
      omega
    have HC := Lib.hid (l21Good_any _ _ HIN.out)
    rw [hk, hg] at HC
    by_cases hl30 : 30 < ss.length
    · have HT := Lib.hid (rrB_long (k := k) hl30)
      have hl30' : (30 : Int) < (ss.length : Int) := by omega
      rw [rrV_no HT.out, rrN_no HT.out, HT.out]
      go_enter Try.func40, Try.ntmps40
      have l10 := HL1.out.range 0 _ rfl
      have l11 := HL1.out.range 1 _ rfl
      have l12 := HL1.out.range 2 _ rfl
      have l30 := HL3.out.range 0 _ rfl
      have l31 := HL3.out.range 1 _ rfl
      have l32 := HL3.out.range 2 _ rfl
      have lf3 := HL3.out.frozen
      simp only [Nat.zero_add] at l10 l11 l12 l30 l31 l32
      go_wp2_with fail
      refine HC.out.mono ?_
      rintro e w' ⟨rfl, hb⟩
      replace HB := Lib.hid (step_ HB.out (Nat.le_refl _) hb)
      clear l10 l11 l12 l30 l31 l32 lf3
      replace HL1 := Lib.hid (HL1.out.below hb)
      replace HL3 := Lib.hid (HL3.out.below hb)
      replace HIN := Lib.hid (HIN.out.below hb)
      have l10 := HL1.out.range 0 _ rfl
      have l11 := HL1.out.range 1 _ rfl
      have l12 := HL1.out.range 2 _ rfl
      have l30 := HL3.out.range 0 _ rfl
      have l31 := HL3.out.range 1 _ rfl
      have l32 := HL3.out.range 2 _ rfl
      have lf3 := HL3.out.frozen
      simp only [Nat.zero_add] at l10 l11 l12 l30 l31 l32
      clear hb hW hz
      go_wp2_with fail
      refine bodyPost_ret (v := .tuple #[.agg #[.int .i64 0, .bool false, .slice none 0 0], .int .i64 0, .bool false]) (by simp [results, Try.results40, go_sem, l30, l31, l32]) rfl ⟨⟨0, false, none, 0, 0, []⟩, rfl, rfl, race_nil, ?_⟩
      repeat (first | (with_reducible exact HB.out) | (with_reducible refine Below.setCell ?_ (by simp <;> omega) _))
    have hl30' : ¬ (30 : Int) < (ss.length : Int) := by omega
    have HT := Lib.hid (rrB_yes (ss := ss) hg (by omega))
    have HTV := Lib.hid (rrV_yes HT.out)
    have HTN := Lib.hid (rrN_yes HT.out)
    go_enter Try.func40, Try.ntmps40
    have l10 := HL1.out.range 0 _ rfl
    have l11 := HL1.out.range 1 _ rfl
    have l12 := HL1.out.range 2 _ rfl
    have l30 := HL3.out.range 0 _ rfl
    have l31 := HL3.out.range 1 _ rfl
    have l32 := HL3.out.range 2 _ rfl
    have lf3 := HL3.out.frozen
    simp only [Nat.zero_add] at l10 l11 l12 l30 l31 l32
    go_wp2_with fail
    refine HC.out.mono ?_
    rintro e w' ⟨rfl, hb⟩
    have HNR := Lib.hid (l21Own_any ⟨cl, cd, A, zs.length, c, zs⟩ w' (HIN.out.below hb) (by simp only; omega) hpz)
    have hsz : w.heap.size + 2 ≤ w'.heap.size := by have := hb.size; rw [HZ.out] at this; exact this
    replace HB := Lib.hid (step_ HB.out (Nat.le_refl _) hb)
    clear l10 l11 l12 l30 l31 l32 lf3
    replace HL1 := Lib.hid (HL1.out.below hb)
    replace HL3 := Lib.hid (HL3.out.below hb)
    replace HIN := Lib.hid (HIN.out.below hb)
    have l10 := HL1.out.range 0 _ rfl
    have l11 := HL1.out.range 1 _ rfl
    have l12 := HL1.out.range 2 _ rfl
    have l30 := HL3.out.range 0 _ rfl
    have l31 := HL3.out.range 1 _ rfl
    have l32 := HL3.out.range 2 _ rfl
    have lf3 := HL3.out.frozen
    simp only [Nat.zero_add] at l10 l11 l12 l30 l31 l32
    clear hb HC hW hz HZ
    go_wp2_with fail
    refine HNR.out.mono ?_
    rintro e w2 ⟨⟨cl', cd', A', n', c', zs'⟩, he, hk', hR', hb⟩
    obtain rfl : e = .returned (.agg #[.int .i64 cl', .bool cd', .slice A' n' c']) := he
    have hsz2 := hb.size
    have hb3 : Below w2.heap.size w2 (w2.alloc (.cells #[.int .i64 cl', .bool cd', .slice A' n' c'] 24)) := below_alloc (Below.refl _ _) _
    have HRA := Lib.hid (show RaceR (w.heap.size + 2) (w2.alloc (.cells #[.int .i64 cl', .bool cd', .slice A' n' c'] 24)) ⟨cl', cd', A', n', c', zs'⟩ from RaceR.below (RaceR.mono hR' hsz) hb3)
    have HLA := Lib.hid (show LitAt (w2.alloc (.cells #[.int .i64 cl', .bool cd', .slice A' n' c'] 24)) w2.heap.size 24 (Race.lst ⟨cl', cd', A', n', c', zs'⟩) from LitAt.new w2 24 [.int .i64 cl', .bool cd', .slice A' n' c'] _ rfl)
    replace HB := Lib.hid (step_ (step_ HB.out (Nat.le_refl _) hb) (Nat.le_refl _) hb3)
    clear l10 l11 l12 l30 l31 l32 lf3
    replace HL3 := Lib.hid ((HL3.out.below hb).below hb3)
    have HK0 := Lib.hid (show (Race.k ⟨cl', cd', A', n', c', zs'⟩) = runV k (ss.take 0) by rw [hk', hk]; rfl)
    have hgW : w.heap.size + 2 ≤ w2.heap.size := by omega
    have hszA : w2.heap.size < (w2.alloc (.cells #[.int .i64 cl', .bool cd', .slice A' n' c'] 24)).heap.size := by simp
    have HGL := Lib.hid (show ∀ j, GoodRace (runV k (ss.take j)) from fun j => runV_good g _)
    clear hb hb3 hR' hk' HNR hsm hpz HIN HL1 hsz hsz2
    go_wp2_with fail
    go_loopw [8, 9] (fun cv iv wr => ∃ (j : Nat) (pj : Race), j ≤ ss.length ∧ iv = .int .i64 j ∧ cv = .int .i64 (runN k (ss.take j)) ∧ Hid (pj.k = runV k (ss.take j)) ∧ Hid (RaceR (w.heap.size + 2) wr pj) ∧ Hid (LitAt wr w2.heap.size 24 pj.lst) ∧ Hid (LitAt wr (w.heap.size + 1) 24 [.int .i64 0, .bool false, .slice none 0 0]) ∧ Hid (Below w.heap.size w wr) ∧ w2.heap.size < wr.heap.size)
      (fun _ iv _ => ss.length - (intOf iv).toNat)
    case atStart => exact ⟨0, _, by omega, rfl, by simp [runN], HK0.out, HRA.out, HLA.out, HL3.out, HB.out, hszA⟩
    case round =>
      clear HRA HLA HL3 HB HK0 hszA
      obtain ⟨j, pj, hj, rfl, rfl, HK, HRA, HLA, HL3, HB, hszr⟩ := hrel
      by_cases hlt : j < ss.length
      · have hlti : (j : Int) < (ss.length : Int) := by omega
        obtain ⟨b0, off, rfl, hat⟩ := flat_at hvk (by omega)
        have hst := rangeAt_below (hat j hlt) HB.out
        have HKN := Lib.hid (runN_take hlt k)
        have HKV := Lib.hid (runV_take hlt k)
        have hle := runN_le (ss.take j) k
        simp only [List.length_take] at hle
        obtain ⟨⟨s0, s1, s2⟩, hse⟩ : ∃ s, s = ss[j] := ⟨_, rfl⟩
        rw [← hse] at hst HKN HKV
        have HGJ := Lib.hid (HGL.out j)
        rw [← HK.out] at HGJ HKN HKV
        have hpn := (RaceR.s HRA.out).len
        obtain ⟨cl4, cd4, A4, n4, c4, zs4⟩ := pj
        simp only at hpn
        subst hpn
        have HCS := Lib.hid (fun (s : After wr) => l21Step_any ⟨cl4, cd4, A4, zs4.length, c4, zs4⟩ ⟨s0, s1, s2⟩ s.w' ((RaceR.s HRA.out).below s.hb))
        have hrr := HLA.out.range
        have HST := Lib.hid hst
        have HLE := Lib.hid (show runN k (ss.take j) ≤ j by omega)
        clear hse hat hvk hle
        generalize runN k (ss.take j) = rn at *
        have r0 := hrr 0 _ rfl
        have r1 := hrr 1 _ rfl
        have r2 := hrr 2 _ rfl
        simp only [Nat.zero_add] at r0 r1 r2
        cases hsg : sgB (Race.k ⟨cl4, cd4, A4, zs4.length, c4, zs4⟩) ⟨s0, s1, s2⟩ with
        | false =>
          have hsb := sg_no hsg
          rw [hsb] at HKN
          simp only [hsg] at HCS
          have HN1 := Lib.hid (show ((rn : Int)) = ((runN k (ss.take (j + 1)) : Nat) : Int) by rw [HKN.out]; simp)
          have HV1 := Lib.hid (show Race.k ⟨cl4, cd4, A4, zs4.length, c4, zs4⟩ = runV k (ss.take (j + 1)) by rw [HKV.out, stepN_no hsb])
          clear hsg hsb HKN HKV HGJ
          go_wp2_with fail
          refine region_after (by kernel_rfl) (by kernel_rfl) ?_
          repeat (any_goals (first | go_big_quiet_step (((go_at_call 75; exact Calls.after (v := .bool false) _ (HCS.out _)))) | (refine stRaceImpl.qload rfl _ rfl w2.heap.size 0 rfl (Race.lst ⟨cl4, cd4, A4, zs4.length, c4, zs4⟩) rfl hrr ?_) | (refine Step.qloadImpl rfl _ rfl b0 (off + j * 3) rfl ⟨s0, s1, s2⟩ hst ?_) | quiet_step (((go_at_call 75; exact Calls.after (v := .bool false) _ (HCS.out _)))) | (refine wpQuiet_step (fun K hK => ?_); go_simp; split <;> (refine hK _ ?_; clear hK K))))
          all_goals (refine wpQuiet_nil ?_; intro s)
          have HS := Lib.hid s.hb
          generalize s.w' = W at HS ⊢
          clear hrr hst r0 r1 r2
          go_wp2_with fail
          go_roundw
          case rel => exact ⟨j + 1, ⟨cl4, cd4, A4, zs4.length, c4, zs4⟩, by omega, by go_num, by rw [HN1.out], HV1.out, RaceR.below HRA.out HS.out, HLA.out.below HS.out, HL3.out.below HS.out, step_ HB.out (Nat.le_refl _) HS.out, Nat.lt_of_lt_of_le hszr HS.out.size⟩
          case measure => simp [intOf]; omega
        | true =>
          have HSG := Lib.hid hsg
          simp only [hsg] at HCS
          clear hsg
          go_wp2_with fail
          refine region_after (by kernel_rfl) (by kernel_rfl) ?_
          repeat (any_goals (first | go_big_quiet_step (((go_at_call 75; exact Calls.after (v := .bool true) _ (HCS.out _)))) | (refine stRaceImpl.qload rfl _ rfl w2.heap.size 0 rfl (Race.lst ⟨cl4, cd4, A4, zs4.length, c4, zs4⟩) rfl hrr ?_) | (refine Step.qloadImpl rfl _ rfl b0 (off + j * 3) rfl ⟨s0, s1, s2⟩ hst ?_) | quiet_step (((go_at_call 75; exact Calls.after (v := .bool true) _ (HCS.out _)))) | (refine wpQuiet_step (fun K hK => ?_); go_simp; split <;> (refine hK _ ?_; clear hK K))))
          all_goals (refine wpQuiet_nil ?_; intro s)
          have HRW := Lib.hid (RaceR.below HRA.out s.hb)
          have HLW := Lib.hid (HLA.out.below s.hb)
          have HL3W := Lib.hid (HL3.out.below s.hb)
          have HBW := Lib.hid (step_ HB.out (Nat.le_refl _) s.hb)
          have HSW := Lib.hid (Nat.lt_of_lt_of_le hszr s.hb.size)
          have HTW := Lib.hid (rangeAt_below hst s.hb)
          generalize s.w' = W at HRW HLW HL3W HBW HSW HTW ⊢
          clear hrr hst r0 r1 r2 HRA HLA HL3 HB hszr HCS HST
          have r0 := HLW.out.range 0 _ rfl
          have r1 := HLW.out.range 1 _ rfl
          have r2 := HLW.out.range 2 _ rfl
          simp only [Nat.zero_add] at r0 r1 r2
          obtain ⟨t0, t1, t2⟩ := Step.cells HTW.out
          simp only at t0 t1 t2
          have HKK := Lib.hid (show ∀ w', Below W.heap.size W w' → w'.cell? ⟨w2.heap.size, 0, none⟩ = some (.int .i64 cl4) ∧ w'.cell? ⟨w2.heap.size, 1, none⟩ = some (.bool cd4) ∧ w'.cell? ⟨w2.heap.size, 2, none⟩ = some (.slice A4 zs4.length c4) ∧ w'.cell? ⟨b0, off + j * 3, none⟩ = some (.int .i64 s0) ∧ w'.cell? ⟨b0, off + j * 3 + 1, none⟩ = some (.int .i64 s1) ∧ w'.cell? ⟨b0, off + j * 3 + 2, none⟩ = some (.int .i64 s2) from fun w' hb =>
            ⟨After.keep r0 ⟨w', hb⟩, After.keep r1 ⟨w', hb⟩, After.keep r2 ⟨w', hb⟩, After.keep t0 ⟨w', hb⟩, After.keep t1 ⟨w', hb⟩, After.keep t2 ⟨w', hb⟩⟩)
          have HMK := Lib.hid (fun (W' : World) (hw : Below W.heap.size W W') => l21Make_any ⟨cl4, cd4, A4, zs4.length, c4, zs4⟩ ⟨s0, s1, s2⟩ W' ((RaceR.s HRW.out).below hw) HGJ.out HSG.out)
          have HWA := Lib.hid (show Below W.heap.size W W.drew from (Below.refl _ _).drew)
          have HWZ := Lib.hid (show Below W.heap.size W (W.drew.alloc (.cells #[.int .i64 0, .bool false, .slice none 0 0] 24)) from below_alloc (Below.refl _ _).drew _)
          have HZL := Lib.hid (show LitAt (W.drew.alloc (.cells #[.int .i64 0, .bool false, .slice none 0 0] 24)) W.heap.size 24 [.int .i64 0, .bool false, .slice none 0 0] from LitAt.new W.drew _ _ _ rfl)
          have hZs : W.heap.size < (W.drew.alloc (.cells #[.int .i64 0, .bool false, .slice none 0 0] 24)).heap.size := by simp
          have hWd : W.drew.heap.size = W.heap.size := rfl
          go_wp2_with fail
          go_region_held3 (fun w' => w'.cell? ⟨w2.heap.size, 0, none⟩ = some (.int .i64 cl4) ∧ w'.cell? ⟨w2.heap.size, 1, none⟩ = some (.bool cd4) ∧ w'.cell? ⟨w2.heap.size, 2, none⟩ = some (.slice A4 zs4.length c4) ∧ w'.cell? ⟨b0, off + j * 3, none⟩ = some (.int .i64 s0) ∧ w'.cell? ⟨b0, off + j * 3 + 1, none⟩ = some (.int .i64 s1) ∧ w'.cell? ⟨b0, off + j * 3 + 2, none⟩ = some (.int .i64 s2))
            (exact HKK.out _ (by repeat (first | (with_reducible exact Below.refl _ _) | (with_reducible exact hbm) | (with_reducible refine Below.drew ?_) | (with_reducible refine below_alloc ?_ _) | (with_reducible refine Below.setCell ?_ (by simp) _))))
            (first
              | (go_at_call 76; refine (HMK.out W.drew HWA.out).mono ?_; rintro e w4 ⟨⟨c5, d5, A5, n5, cc5, z5⟩, rfl, HE, hR5, hb4⟩; have hbm : Below W.heap.size W w4 := step_ HWA.out (Nat.le_refl _) hb4; have kindA : True := trivial)
              | (go_at_call 76; refine (HMK.out (W.drew.alloc (.cells #[.int .i64 0, .bool false, .slice none 0 0] 24)) HWZ.out).mono ?_; rintro e w4 ⟨⟨c5, d5, A5, n5, cc5, z5⟩, rfl, HE, hR5, hb4⟩; have hbm : Below W.heap.size W w4 := step_ HWZ.out (Nat.le_refl _) hb4; have HZ4 := Lib.hid (HZL.out.below hb4); have z0 := HZ4.out.range 0 _ rfl; have z1 := HZ4.out.range 1 _ rfl; have z2 := HZ4.out.range 2 _ rfl; have zf := HZ4.out.frozen; (simp only [Nat.zero_add] at z0 z1 z2); have kindB : True := trivial))
          all_goals first
            | (have _ := kindA
               have HB4 := Lib.hid (below_alloc hbm (.cells #[.int .i64 c5, .bool d5, .slice A5 n5 cc5] 24))
               have HR5 := Lib.hid (show RaceR W.heap.size (w4.alloc (.cells #[.int .i64 c5, .bool d5, .slice A5 n5 cc5] 24)) ⟨c5, d5, A5, n5, cc5, z5⟩ from RaceR.below hR5 (below_alloc (Below.refl _ _) _))
               have HL5 := Lib.hid (show LitAt (w4.alloc (.cells #[.int .i64 c5, .bool d5, .slice A5 n5 cc5] 24)) w4.heap.size 24 [.int .i64 c5, .bool d5, .slice A5 n5 cc5] from LitAt.new _ _ _ _ rfl)
               generalize (w4.alloc (.cells #[.int .i64 c5, .bool d5, .slice A5 n5 cc5] 24)) = W5 at HB4 HR5 HL5 ⊢
               clear hbm hR5 hb4 kindA HWA HWZ HZL hZs HMK)
            | (have _ := kindB
               have HB4 := Lib.hid (show Below W.heap.size W (((w4.setCell ⟨W.heap.size, 0, none⟩ (.int .i64 c5)).setCell ⟨W.heap.size, 1, none⟩ (.bool d5)).setCell ⟨W.heap.size, 2, none⟩ (.slice A5 n5 cc5)) from ((hbm.setCell (by simp) _).setCell (by simp) _).setCell (by simp) _)
               have HR5 := Lib.hid (show RaceR W.heap.size (((w4.setCell ⟨W.heap.size, 0, none⟩ (.int .i64 c5)).setCell ⟨W.heap.size, 1, none⟩ (.bool d5)).setCell ⟨W.heap.size, 2, none⟩ (.slice A5 n5 cc5)) ⟨c5, d5, A5, n5, cc5, z5⟩ from RaceR.mono (((hR5.setOther hZs _).setOther hZs _).setOther hZs _) (Nat.le_of_lt hZs))
               have HL5 := Lib.hid (show LitAt (((w4.setCell ⟨W.heap.size, 0, none⟩ (.int .i64 c5)).setCell ⟨W.heap.size, 1, none⟩ (.bool d5)).setCell ⟨W.heap.size, 2, none⟩ (.slice A5 n5 cc5)) W.heap.size 24 [.int .i64 c5, .bool d5, .slice A5 n5 cc5] from ((HZ4.out.set 0 (.int .i64 c5)).set 1 (.bool d5)).set 2 (.slice A5 n5 cc5))
               generalize (((w4.setCell ⟨W.heap.size, 0, none⟩ (.int .i64 c5)).setCell ⟨W.heap.size, 1, none⟩ (.bool d5)).setCell ⟨W.heap.size, 2, none⟩ (.slice A5 n5 cc5)) = W5 at HB4 HR5 HL5 ⊢
               clear hbm hR5 hb4 kindB HWA HWZ HZL hZs HMK HZ4 zf z0 z1 z2)
          all_goals
            have HLG := Lib.hid (HLW.out.below HB4.out)
            have hg0 := HLG.out.range 0 _ rfl
            have hg1 := HLG.out.range 1 _ rfl
            have hg2 := HLG.out.range 2 _ rfl
            have hgf := HLG.out.frozen
            have h50 := HL5.out.range 0 _ rfl
            have h51 := HL5.out.range 1 _ rfl
            have h52 := HL5.out.range 2 _ rfl
            simp only [Nat.zero_add] at hg0 hg1 hg2 h50 h51 h52
            have HE' := Lib.hid HE.out
            clear HE hWd
            cases hsb : stepB (Race.k ⟨cl4, cd4, A4, zs4.length, c4, zs4⟩) ⟨s0, s1, s2⟩ with
            | false =>
              rw [hsb] at HKN
              have HN1 := Lib.hid (show ((rn : Int)) = ((runN k (ss.take (j + 1)) : Nat) : Int) by rw [HKN.out]; simp)
              have HV1 := Lib.hid (show Race.k ⟨cl4, cd4, A4, zs4.length, c4, zs4⟩ = runV k (ss.take (j + 1)) by rw [HKV.out, stepN_no hsb])
              clear hsb HKN HKV HGJ
              go_wp2_with fail
              go_roundw
              case rel => exact ⟨j + 1, ⟨cl4, cd4, A4, zs4.length, c4, zs4⟩, by omega, by go_num, by rw [HN1.out], HV1.out, RaceR.below HRW.out HB4.out, HLG.out, HL3W.out.below HB4.out, step_ HBW.out (Nat.le_refl _) HB4.out, Nat.lt_of_lt_of_le HSW.out HB4.out.size⟩
              case measure => simp [intOf]; omega
            | true =>
              rw [hsb] at HKN
              have HN1 := Lib.hid (show ((rn : Int)) + 1 = ((runN k (ss.take (j + 1)) : Nat) : Int) by rw [HKN.out]; simp)
              have HV1 := Lib.hid (show Race.k ⟨c5, d5, A5, n5, cc5, z5⟩ = runV k (ss.take (j + 1)) by rw [HKV.out, stepN_yes hsb]; exact HE'.out hsb)
              have HLN := Lib.hid (show LitAt (((W5.setCell ⟨w2.heap.size, 0, none⟩ (.int .i64 c5)).setCell ⟨w2.heap.size, 1, none⟩ (.bool d5)).setCell ⟨w2.heap.size, 2, none⟩ (.slice A5 n5 cc5)) w2.heap.size 24 (Race.lst ⟨c5, d5, A5, n5, cc5, z5⟩) from ((HLG.out.set 0 (.int .i64 c5)).set 1 (.bool d5)).set 2 (.slice A5 n5 cc5))
              have HRN := Lib.hid (show RaceR (w.heap.size + 2) (((W5.setCell ⟨w2.heap.size, 0, none⟩ (.int .i64 c5)).setCell ⟨w2.heap.size, 1, none⟩ (.bool d5)).setCell ⟨w2.heap.size, 2, none⟩ (.slice A5 n5 cc5)) ⟨c5, d5, A5, n5, cc5, z5⟩ from RaceR.mono (((HR5.out.setOther HSW.out _).setOther HSW.out _).setOther HSW.out _) (by have := HSW.out; omega))
              have HL3N := Lib.hid (show LitAt (((W5.setCell ⟨w2.heap.size, 0, none⟩ (.int .i64 c5)).setCell ⟨w2.heap.size, 1, none⟩ (.bool d5)).setCell ⟨w2.heap.size, 2, none⟩ (.slice A5 n5 cc5)) (w.heap.size + 1) 24 [.int .i64 0, .bool false, .slice none 0 0] from (((HL3W.out.below HB4.out).setNe (by omega) _).setNe (by omega) _).setNe (by omega) _)
              have HBN := Lib.hid (show Below w.heap.size w (((W5.setCell ⟨w2.heap.size, 0, none⟩ (.int .i64 c5)).setCell ⟨w2.heap.size, 1, none⟩ (.bool d5)).setCell ⟨w2.heap.size, 2, none⟩ (.slice A5 n5 cc5)) from (((step_ HBW.out (Nat.le_refl _) HB4.out).setCell (by simp; omega) _).setCell (by simp; omega) _).setCell (by simp; omega) _)
              have HSN := Lib.hid (show w2.heap.size < (((W5.setCell ⟨w2.heap.size, 0, none⟩ (.int .i64 c5)).setCell ⟨w2.heap.size, 1, none⟩ (.bool d5)).setCell ⟨w2.heap.size, 2, none⟩ (.slice A5 n5 cc5)).heap.size by have := Nat.lt_of_lt_of_le HSW.out HB4.out.size; simpa using this)
              clear hsb HKN HKV HGJ
              go_wp2_with fail
              go_roundw
              case rel => exact ⟨j + 1, ⟨c5, d5, A5, n5, cc5, z5⟩, by omega, by go_num, by (have h1 := HLE.out; rw [← HN1.out, (show wrap64 ((rn : Int) + 1) = (rn : Int) + 1 from by (unfold wrap64; omega))]), HV1.out, HRN.out, HLN.out, HL3N.out, HBN.out, HSN.out⟩
              case measure => simp [intOf]; omega
      · have hlti : ¬ (j : Int) < (ss.length : Int) := by omega
        obtain rfl : j = ss.length := by omega
        rw [List.take_length] at HK ⊢
        obtain ⟨cl4, cd4, A4, n4, c4, zs4⟩ := pj
        have r0 := HLA.out.range 0 _ rfl
        have r1 := HLA.out.range 1 _ rfl
        have r2 := HLA.out.range 2 _ rfl
        have l30 := HL3.out.range 0 _ rfl
        have l31 := HL3.out.range 1 _ rfl
        have l32 := HL3.out.range 2 _ rfl
        have lf3 := HL3.out.frozen
        simp only [Nat.zero_add] at r0 r1 r2 l30 l31 l32
        go_wp2_with fail
        refine bodyPost_ret (v := .tuple #[.agg #[.int .i64 cl4, .bool cd4, .slice A4 n4 c4], .int .i64 (runN k ss), .bool true]) (by simp [results, Try.results40, go_sem, l30, l31, l32]) rfl ⟨⟨cl4, cd4, A4, n4, c4, zs4⟩, by rw [HT.out, HTN.out], by rw [HTV.out]; exact HK.out, ?_, ?_⟩
        · refine RaceR.mono (base := w.heap.size + 2) ?_ (by omega)
          have h0 := HRA.out
          repeat (first | (with_reducible exact h0) | (with_reducible refine RaceR.setOther ?_ (by omega) _))
        · skip
          repeat (first | (with_reducible exact HB.out) | (with_reducible refine Below.setCell ?_ (by simp <;> omega) _))
end Go.Proofs.Ytfmgnbkneccekaa
