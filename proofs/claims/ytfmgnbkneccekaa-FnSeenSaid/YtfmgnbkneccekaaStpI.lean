/- StepRace and RunRace, the reference's. No condition. -/
import Derived.Test.YtfmgnbkneccekaaStpH
namespace Go.Proofs.Ytfmgnbkneccekaa
open Go Go.RowKit

theorem l21Make_any (p : Race) (s : Step) (w : World) (h : p.In w) (g : GoodRace p.k) (hs : sgB p.k s = true) :
    Calls Try.prog 76 #[p.val, s.val] w fun e w' => ∃ p' : Race, e = .returned (.tuple #[.agg #[.int .i64 p'.clock, .bool p'.closed, .slice p'.a p'.n p'.c], .bool (stepB p.k s)]) ∧ Hid (stepB p.k s = true → p'.k = stepV p.k s) ∧ RaceR w.heap.size w' p' ∧ Below w.heap.size w w' := by
  by_cases h1 : s.kind = 1
  · exact l21MakeA p s w h g hs (.inl h1)
  · by_cases h6 : s.kind = 6
    · exact l21MakeA p s w h g hs (.inr h6)
    · exact l21MakeE p s w h g hs h1 h6
theorem sg_no {k : RaceK} {s : Step} (h : sgB k s = false) : stepB k s = false := by
  cases hs : stepB k s with
  | false => rfl
  | true => rw [sgB_step hs] at h; cases h
set_option maxRecDepth 100000 in
set_option maxHeartbeats 8000000 in
theorem spec_StepRace (p : Race) (k : RaceK) (s : Step) (w : World) (hk : p.k = k) (h : p.In w) (_ : s.ok) :
    Calls Try.prog 36 #[p.val, s.val] w fun e w' => ∃ p' : Race, e = .returned (.tuple #[.agg #[.int .i64 p'.clock, .bool p'.closed, .slice p'.a p'.n p'.c], .bool (strB k s)]) ∧ p'.k = strV k s ∧ RaceR w.heap.size w' p' ∧ Below w.heap.size w w' := by
  have hpl := h.len
  obtain ⟨cl, cd, A, n, c, zs⟩ := p
  obtain ⟨s0, s1, s2⟩ := s
  simp only at hpl
  subst hpl
  have hW : Below w.heap.size w (((w.alloc (.cells #[.int .i64 cl, .bool cd, .slice A zs.length c] 24)).alloc (.cells #[.int .i64 s0, .int .i64 s1, .int .i64 s2] 53)).alloc (.cells #[.int .i64 0, .bool false, .slice none 0 0] 24)) := below_alloc (below_alloc (below_alloc (Below.refl _ _) _) _) _
  have hz : (((w.alloc (.cells #[.int .i64 cl, .bool cd, .slice A zs.length c] 24)).alloc (.cells #[.int .i64 s0, .int .i64 s1, .int .i64 s2] 53)).alloc (.cells #[.int .i64 0, .bool false, .slice none 0 0] 24)).heap.size = w.heap.size + 3 := by simp
  have hl1 : LitAt (((w.alloc (.cells #[.int .i64 cl, .bool cd, .slice A zs.length c] 24)).alloc (.cells #[.int .i64 s0, .int .i64 s1, .int .i64 s2] 53)).alloc (.cells #[.int .i64 0, .bool false, .slice none 0 0] 24)) w.heap.size 24 [.int .i64 cl, .bool cd, .slice A zs.length c] := LitAt.alloc (LitAt.alloc (LitAt.new _ _ _ _ rfl) _) _
  have hl2 : LitAt (((w.alloc (.cells #[.int .i64 cl, .bool cd, .slice A zs.length c] 24)).alloc (.cells #[.int .i64 s0, .int .i64 s1, .int .i64 s2] 53)).alloc (.cells #[.int .i64 0, .bool false, .slice none 0 0] 24)) (w.heap.size + 1) 53 [.int .i64 s0, .int .i64 s1, .int .i64 s2] := LitAt.alloc (LitAt.new _ _ _ _ (by simp)) _
  have hl3 : LitAt (((w.alloc (.cells #[.int .i64 cl, .bool cd, .slice A zs.length c] 24)).alloc (.cells #[.int .i64 s0, .int .i64 s1, .int .i64 s2] 53)).alloc (.cells #[.int .i64 0, .bool false, .slice none 0 0] 24)) (w.heap.size + 1 + 1) 24 [.int .i64 0, .bool false, .slice none 0 0] := LitAt.new _ _ _ _ (by simp)
  have HB := Lib.hid hW
  have HIN := Lib.hid (h.below hW)
  have HL1 := Lib.hid hl1
  have HL2 := Lib.hid hl2
  have HL3 := Lib.hid hl3
  have HZ := Lib.hid hz
  clear h hl1 hl2 hl3
  show Calls Try.prog 36 #[.agg #[.int .i64 cl, .bool cd, .slice A zs.length c], .agg #[.int .i64 s0, .int .i64 s1, .int .i64 s2]] w _
  cases hg : goodRace k with
  | false =>
    have HT := Lib.hid (strB_bad (s := ⟨s0, s1, s2⟩) hg)
    have HC := Lib.hid (l21Good_any _ _ HIN.out)
    rw [hk, hg] at HC
    have HV := Lib.hid (strV_no HT.out)
    go_enter Try.func36, Try.ntmps36
    have l10 := HL1.out.range 0 _ rfl
    have l11 := HL1.out.range 1 _ rfl
    have l12 := HL1.out.range 2 _ rfl
    have l20 := HL2.out.range 0 _ rfl
    have l21 := HL2.out.range 1 _ rfl
    have l22 := HL2.out.range 2 _ rfl
    have l30 := HL3.out.range 0 _ rfl
    have l31 := HL3.out.range 1 _ rfl
    have l32 := HL3.out.range 2 _ rfl
    have lf3 := HL3.out.frozen
    simp only [Nat.zero_add] at l10 l11 l12 l20 l21 l22 l30 l31 l32
    go_wp2_with fail
    refine HC.out.mono ?_
    rintro e w' ⟨rfl, hb⟩
    replace HB := Lib.hid (step_ HB.out (Nat.le_refl _) hb)
    clear l10 l11 l12 l20 l21 l22 l30 l31 l32 lf3
    replace HL1 := Lib.hid (HL1.out.below hb)
    replace HL2 := Lib.hid (HL2.out.below hb)
    replace HL3 := Lib.hid (HL3.out.below hb)
    replace HIN := Lib.hid (HIN.out.below hb)
    have l10 := HL1.out.range 0 _ rfl
    have l11 := HL1.out.range 1 _ rfl
    have l12 := HL1.out.range 2 _ rfl
    have l20 := HL2.out.range 0 _ rfl
    have l21 := HL2.out.range 1 _ rfl
    have l22 := HL2.out.range 2 _ rfl
    have l30 := HL3.out.range 0 _ rfl
    have l31 := HL3.out.range 1 _ rfl
    have l32 := HL3.out.range 2 _ rfl
    have lf3 := HL3.out.frozen
    simp only [Nat.zero_add] at l10 l11 l12 l20 l21 l22 l30 l31 l32
    clear hb hW hz
    go_wp2_with fail
    refine bodyPost_ret (v := .tuple #[.agg #[.int .i64 0, .bool false, .slice none 0 0], .bool false]) (by simp [results, Try.results36, go_sem, l30, l31, l32]) rfl ⟨⟨0, false, none, 0, 0, []⟩, by rw [HT.out], by rw [HV.out]; rfl, race_nil, ?_⟩
    repeat (first | (with_reducible exact HB.out) | (with_reducible refine Below.setCell ?_ (by simp <;> omega) _))
  | true =>
    have g := goodRace_iff.1 hg
    have HC := Lib.hid (l21Good_any _ _ HIN.out)
    rw [hk, hg] at HC
    have HGR := Lib.hid (show GoodRace (Race.k ⟨cl, cd, A, zs.length, c, zs⟩) by rw [hk]; exact g)
    cases hsg : sgB k ⟨s0, s1, s2⟩ with
    | false =>
      have HT := Lib.hid (strB_no (sg_no hsg))
      have HV := Lib.hid (strV_no HT.out)
      go_enter Try.func36, Try.ntmps36
      have l10 := HL1.out.range 0 _ rfl
      have l11 := HL1.out.range 1 _ rfl
      have l12 := HL1.out.range 2 _ rfl
      have l20 := HL2.out.range 0 _ rfl
      have l21 := HL2.out.range 1 _ rfl
      have l22 := HL2.out.range 2 _ rfl
      have l30 := HL3.out.range 0 _ rfl
      have l31 := HL3.out.range 1 _ rfl
      have l32 := HL3.out.range 2 _ rfl
      have lf3 := HL3.out.frozen
      simp only [Nat.zero_add] at l10 l11 l12 l20 l21 l22 l30 l31 l32
      go_wp2_with fail
      refine HC.out.mono ?_
      rintro e w' ⟨rfl, hb⟩
      replace HB := Lib.hid (step_ HB.out (Nat.le_refl _) hb)
      clear l10 l11 l12 l20 l21 l22 l30 l31 l32 lf3
      replace HL1 := Lib.hid (HL1.out.below hb)
      replace HL2 := Lib.hid (HL2.out.below hb)
      replace HL3 := Lib.hid (HL3.out.below hb)
      replace HIN := Lib.hid (HIN.out.below hb)
      have l10 := HL1.out.range 0 _ rfl
      have l11 := HL1.out.range 1 _ rfl
      have l12 := HL1.out.range 2 _ rfl
      have l20 := HL2.out.range 0 _ rfl
      have l21 := HL2.out.range 1 _ rfl
      have l22 := HL2.out.range 2 _ rfl
      have l30 := HL3.out.range 0 _ rfl
      have l31 := HL3.out.range 1 _ rfl
      have l32 := HL3.out.range 2 _ rfl
      have lf3 := HL3.out.frozen
      simp only [Nat.zero_add] at l10 l11 l12 l20 l21 l22 l30 l31 l32
      have HSG := Lib.hid (l21Step_any ⟨cl, cd, A, zs.length, c, zs⟩ ⟨s0, s1, s2⟩ _ HIN.out)
      rw [hk, hsg] at HSG
      clear hb hW hz
      go_wp2_with fail
      refine HSG.out.mono ?_
      rintro e w' ⟨rfl, hb⟩
      replace HB := Lib.hid (step_ HB.out (Nat.le_refl _) hb)
      clear l10 l11 l12 l20 l21 l22 l30 l31 l32 lf3
      replace HL1 := Lib.hid (HL1.out.below hb)
      replace HL2 := Lib.hid (HL2.out.below hb)
      replace HL3 := Lib.hid (HL3.out.below hb)
      replace HIN := Lib.hid (HIN.out.below hb)
      have l10 := HL1.out.range 0 _ rfl
      have l11 := HL1.out.range 1 _ rfl
      have l12 := HL1.out.range 2 _ rfl
      have l20 := HL2.out.range 0 _ rfl
      have l21 := HL2.out.range 1 _ rfl
      have l22 := HL2.out.range 2 _ rfl
      have l30 := HL3.out.range 0 _ rfl
      have l31 := HL3.out.range 1 _ rfl
      have l32 := HL3.out.range 2 _ rfl
      have lf3 := HL3.out.frozen
      simp only [Nat.zero_add] at l10 l11 l12 l20 l21 l22 l30 l31 l32
      clear hb
      go_wp2_with fail
      refine bodyPost_ret (v := .tuple #[.agg #[.int .i64 0, .bool false, .slice none 0 0], .bool false]) (by simp [results, Try.results36, go_sem, l30, l31, l32]) rfl ⟨⟨0, false, none, 0, 0, []⟩, by rw [HT.out], by rw [HV.out]; rfl, race_nil, ?_⟩
      repeat (first | (with_reducible exact HB.out) | (with_reducible refine Below.setCell ?_ (by simp <;> omega) _))
    | true =>
      go_enter Try.func36, Try.ntmps36
      have l10 := HL1.out.range 0 _ rfl
      have l11 := HL1.out.range 1 _ rfl
      have l12 := HL1.out.range 2 _ rfl
      have l20 := HL2.out.range 0 _ rfl
      have l21 := HL2.out.range 1 _ rfl
      have l22 := HL2.out.range 2 _ rfl
      have l30 := HL3.out.range 0 _ rfl
      have l31 := HL3.out.range 1 _ rfl
      have l32 := HL3.out.range 2 _ rfl
      have lf3 := HL3.out.frozen
      simp only [Nat.zero_add] at l10 l11 l12 l20 l21 l22 l30 l31 l32
      go_wp2_with fail
      refine HC.out.mono ?_
      rintro e w' ⟨rfl, hb⟩
      replace HB := Lib.hid (step_ HB.out (Nat.le_refl _) hb)
      clear l10 l11 l12 l20 l21 l22 l30 l31 l32 lf3
      replace HL1 := Lib.hid (HL1.out.below hb)
      replace HL2 := Lib.hid (HL2.out.below hb)
      replace HL3 := Lib.hid (HL3.out.below hb)
      replace HIN := Lib.hid (HIN.out.below hb)
      have l10 := HL1.out.range 0 _ rfl
      have l11 := HL1.out.range 1 _ rfl
      have l12 := HL1.out.range 2 _ rfl
      have l20 := HL2.out.range 0 _ rfl
      have l21 := HL2.out.range 1 _ rfl
      have l22 := HL2.out.range 2 _ rfl
      have l30 := HL3.out.range 0 _ rfl
      have l31 := HL3.out.range 1 _ rfl
      have l32 := HL3.out.range 2 _ rfl
      have lf3 := HL3.out.frozen
      simp only [Nat.zero_add] at l10 l11 l12 l20 l21 l22 l30 l31 l32
      have HSG := Lib.hid (l21Step_any ⟨cl, cd, A, zs.length, c, zs⟩ ⟨s0, s1, s2⟩ _ HIN.out)
      rw [hk, hsg] at HSG
      have hsz1 := hb.size
      rw [HZ.out] at hsz1
      clear hb hW hz
      go_wp2_with fail
      refine HSG.out.mono ?_
      rintro e w1 ⟨rfl, hb⟩
      replace HB := Lib.hid (step_ HB.out (Nat.le_refl _) hb)
      clear l10 l11 l12 l20 l21 l22 l30 l31 l32 lf3
      replace HL1 := Lib.hid (HL1.out.below hb)
      replace HL2 := Lib.hid (HL2.out.below hb)
      replace HL3 := Lib.hid (HL3.out.below hb)
      replace HIN := Lib.hid (HIN.out.below hb)
      have l10 := HL1.out.range 0 _ rfl
      have l11 := HL1.out.range 1 _ rfl
      have l12 := HL1.out.range 2 _ rfl
      have l20 := HL2.out.range 0 _ rfl
      have l21 := HL2.out.range 1 _ rfl
      have l22 := HL2.out.range 2 _ rfl
      have l30 := HL3.out.range 0 _ rfl
      have l31 := HL3.out.range 1 _ rfl
      have l32 := HL3.out.range 2 _ rfl
      have lf3 := HL3.out.frozen
      simp only [Nat.zero_add] at l10 l11 l12 l20 l21 l22 l30 l31 l32
      have HMK := Lib.hid (l21Make_any ⟨cl, cd, A, zs.length, c, zs⟩ ⟨s0, s1, s2⟩ _ HIN.out HGR.out (by rw [hk]; exact hsg))
      rw [hk] at HMK
      have hsz2 := hb.size
      clear hb
      go_wp2_with fail
      refine HMK.out.mono ?_
      rintro e w2 ⟨⟨cl', cd', A', n', c', zs'⟩, rfl, HE, hR', hb⟩
      have hb3 : Below w2.heap.size w2 (w2.alloc (.cells #[.int .i64 cl', .bool cd', .slice A' n' c'] 24)) := below_alloc (Below.refl _ _) _
      have HR5 := Lib.hid (RaceR.below (RaceR.mono hR' (show w.heap.size + 3 ≤ w1.heap.size by omega)) hb3)
      have HL4 := Lib.hid (show LitAt (w2.alloc (.cells #[.int .i64 cl', .bool cd', .slice A' n' c'] 24)) w2.heap.size 24 [.int .i64 cl', .bool cd', .slice A' n' c'] from LitAt.new _ _ _ _ rfl)
      replace hb := step_ hb (Nat.le_refl _) hb3
      replace HB := Lib.hid (step_ HB.out (Nat.le_refl _) hb)
      clear l10 l11 l12 l20 l21 l22 l30 l31 l32 lf3
      replace HL1 := Lib.hid (HL1.out.below hb)
      replace HL2 := Lib.hid (HL2.out.below hb)
      replace HL3 := Lib.hid (HL3.out.below hb)
      replace HIN := Lib.hid (HIN.out.below hb)
      have l10 := HL1.out.range 0 _ rfl
      have l11 := HL1.out.range 1 _ rfl
      have l12 := HL1.out.range 2 _ rfl
      have l20 := HL2.out.range 0 _ rfl
      have l21 := HL2.out.range 1 _ rfl
      have l22 := HL2.out.range 2 _ rfl
      have l30 := HL3.out.range 0 _ rfl
      have l31 := HL3.out.range 1 _ rfl
      have l32 := HL3.out.range 2 _ rfl
      have lf3 := HL3.out.frozen
      simp only [Nat.zero_add] at l10 l11 l12 l20 l21 l22 l30 l31 l32
      have l40 := HL4.out.range 0 _ rfl
      have l41 := HL4.out.range 1 _ rfl
      have l42 := HL4.out.range 2 _ rfl
      simp only [Nat.zero_add] at l40 l41 l42
      clear hb hb3 hR' HMK hsg
      cases hs : stepB k ⟨s0, s1, s2⟩ with
      | false =>
        have HT := Lib.hid (strB_no hs)
        have HV := Lib.hid (strV_no HT.out)
        go_wp2_with fail
        refine bodyPost_ret (v := .tuple #[.agg #[.int .i64 0, .bool false, .slice none 0 0], .bool false]) (by simp [results, Try.results36, go_sem, l30, l31, l32]) rfl ⟨⟨0, false, none, 0, 0, []⟩, by rw [HT.out], by rw [HV.out]; rfl, race_nil, ?_⟩
        repeat (first | (with_reducible exact HB.out) | (with_reducible refine Below.setCell ?_ (by simp <;> omega) _))
      | true =>
        have HT := Lib.hid (strB_yes hg hs)
        have HV := Lib.hid (HE.out hs)
        go_wp2_with fail
        refine bodyPost_ret (v := .tuple #[.agg #[.int .i64 cl', .bool cd', .slice A' n' c'], .bool true]) (by simp [results, Try.results36, go_sem, l30, l31, l32]) rfl ⟨⟨cl', cd', A', n', c', zs'⟩, by rw [HT.out], HV.out.trans (strV_yes HT.out).symm, ?_, ?_⟩
        · refine RaceR.mono (base := w.heap.size + 3) ?_ (by omega)
          repeat (first | (with_reducible exact HR5.out) | (with_reducible refine RaceR.setOther ?_ (by omega) _))
        · skip
          repeat (first | (with_reducible exact HB.out) | (with_reducible refine Below.setCell ?_ (by simp <;> omega) _))
end Go.Proofs.Ytfmgnbkneccekaa
