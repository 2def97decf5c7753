/- StepRace and RunRace, the program's. No condition. -/
import Derived.Test.YtfmgnbkneccekaaStpC
import Derived.Test.YtfmgnbkneccekaaRcH
namespace Go.Proofs.Ytfmgnbkneccekaa
open Go Go.RowKit

theorem strB_bad {k : RaceK} {s : Step} (h : goodRace k = false) : strB k s = false := by simp [strB, h]
theorem strB_no {k : RaceK} {s : Step} (h : stepB k s = false) : strB k s = false := by simp [strB, h]
theorem strB_yes {k : RaceK} {s : Step} (h : goodRace k = true) (h' : stepB k s = true) : strB k s = true := by simp [strB, h, h']
theorem strV_no {k : RaceK} {s : Step} (h : strB k s = false) : strV k s = ⟨0, false, []⟩ := by simp [strV, h]
theorem strV_yes {k : RaceK} {s : Step} (h : strB k s = true) : strV k s = stepV k s := by simp [strV, h]
theorem race_nil {base : Nat} {w : World} : RaceR base w ⟨0, false, none, 0, 0, []⟩ := ⟨Row.nil _ _ _ _, by simp, by simp⟩
theorem RaceR.setOther {base : Nat} {w : World} {p : Race} (h : RaceR base w p) {q o : Nat} (hq : q < base) (u : Value) : RaceR base (w.setCell ⟨q, o, none⟩ u) p := EntR.setOther h hq u
set_option maxRecDepth 100000 in
set_option maxHeartbeats 8000000 in
theorem impl_StepRace (p : Race) (k : RaceK) (s : Step) (w : World) (hk : p.k = k) (h : p.In w) (_ : s.ok) :
    Calls Try.prog 38 #[p.val, s.val] w fun e w' => ∃ p' : Race, e = .returned (.tuple #[.agg #[.int .i64 p'.clock, .bool p'.closed, .slice p'.a p'.n p'.c], .bool (strB k s)]) ∧ p'.k = strV k s ∧ RaceR w.heap.size w' p' ∧ Below w.heap.size w w' := by
  have hpl := h.len
  obtain ⟨cl, cd, A, n, c, zs⟩ := p
  obtain ⟨s0, s1, s2⟩ := s
  simp only at hpl
  subst hpl
  have hW : Below w.heap.size w (((w.alloc (.cells #[.int .i64 cl, .bool cd, .slice A zs.length c] 24)).alloc (.cells #[.int .i64 s0, .int .i64 s1, .int .i64 s2] 53)).alloc (.cells #[.int .i64 0, .bool false, .slice none 0 0] 24)) := below_alloc (below_alloc (below_alloc (Below.refl _ _) _) _) _
  have hz : (((w.alloc (.cells #[.int .i64 cl, .bool cd, .slice A zs.length c] 24)).alloc (.cells #[.int .i64 s0, .int .i64 s1, .int .i64 s2] 53)).alloc (.cells #[.int .i64 0, .bool false, .slice none 0 0] 24)).heap.size = w.heap.size + 3 := by simp
  have hl1 : LitAt (((w.alloc (.cells #[.int .i64 cl, .bool cd, .slice A zs.length c] 24)).alloc (.cells #[.int .i64 s0, .int .i64 s1, .int .i64 s2] 53)).alloc (.cells #[.int .i64 0, .bool false, .slice none 0 0] 24)) w.heap.size 24 [.int .i64 cl, .bool cd, .slice A zs.length c] := LitAt.alloc (LitAt.alloc (LitAt.new _ _ _ _ rfl) _) _
  have hl2 : LitAt (((w.alloc (.cells #[.int .i64 cl, .bool cd, .slice A zs.length c] 24)).alloc (.cells #[.int .i64 s0, .int .i64 s1, .int .i64 s2] 53)).alloc (.cells #[.int .i64 0, .bool false, .slice none 0 0] 24)) (w.heap.size + 1) 53 [.int .i64 s0, .int .i64 s1, .int .i64 s2] := LitAt.alloc (LitAt.new _ _ _ _ (by simp)) _
  have hl3 : LitAt (((w.alloc (.cells #[.int .i64 cl, .bool cd, .slice A zs.length c] 24)).alloc (.cells #[.int .i64 s0, .int .i64 s1, .int .i64 s2] 53)).alloc (.cells #[.int .i64 0, .bool false, .slice none 0 0] 24)) (w.heap.size + 1 + 1) 24 [.int .i64 0, .bool false, .slice none 0 0] := LitAt.new _ _ _ _ (by simp)
  have HB := Lib.hid hW
  have HIN := Lib.hid (h.below hW)
  have HL1 := Lib.hid hl1
  have HL2 := Lib.hid hl2
  have HL3 := Lib.hid hl3
  have HZ := Lib.hid hz
  clear h hl1 hl2 hl3
  show Calls Try.prog 38 #[.agg #[.int .i64 cl, .bool cd, .slice A zs.length c], .agg #[.int .i64 s0, .int .i64 s1, .int .i64 s2]] w _
  cases hg : goodRace k with
  | false =>
    have HT := Lib.hid (strB_bad (s := ⟨s0, s1, s2⟩) hg)
    have HC := Lib.hid (IsRace_any _ _ HIN.out)
    rw [hk, hg] at HC
    have HV := Lib.hid (strV_no HT.out)
    rw [HV.out, HT.out]
    go_enter Try.func38, Try.ntmps38
    have l10 := HL1.out.range 0 _ rfl
    have l11 := HL1.out.range 1 _ rfl
    have l12 := HL1.out.range 2 _ rfl
    have l20 := HL2.out.range 0 _ rfl
    have l21 := HL2.out.range 1 _ rfl
    have l22 := HL2.out.range 2 _ rfl
    have l30 := HL3.out.range 0 _ rfl
    have l31 := HL3.out.range 1 _ rfl
    have l32 := HL3.out.range 2 _ rfl
    have lf3 := HL3.out.frozen
    simp only [Nat.zero_add] at l10 l11 l12 l20 l21 l22 l30 l31 l32
    go_wp2_with fail
    refine HC.out.mono ?_
    rintro e w' ⟨rfl, hb⟩
    replace HB := Lib.hid (step_ HB.out (Nat.le_refl _) hb)
    clear l10 l11 l12 l20 l21 l22 l30 l31 l32 lf3
    replace HL1 := Lib.hid (HL1.out.below hb)
    replace HL2 := Lib.hid (HL2.out.below hb)
    replace HL3 := Lib.hid (HL3.out.below hb)
    have l10 := HL1.out.range 0 _ rfl
    have l11 := HL1.out.range 1 _ rfl
    have l12 := HL1.out.range 2 _ rfl
    have l20 := HL2.out.range 0 _ rfl
    have l21 := HL2.out.range 1 _ rfl
    have l22 := HL2.out.range 2 _ rfl
    have l30 := HL3.out.range 0 _ rfl
    have l31 := HL3.out.range 1 _ rfl
    have l32 := HL3.out.range 2 _ rfl
    have lf3 := HL3.out.frozen
    simp only [Nat.zero_add] at l10 l11 l12 l20 l21 l22 l30 l31 l32
    clear hb hW hz
    go_wp2_with fail
    refine bodyPost_ret (v := .tuple #[.agg #[.int .i64 0, .bool false, .slice none 0 0], .bool false]) (by simp [results, Try.results38, go_sem, l30, l31, l32]) rfl ⟨⟨0, false, none, 0, 0, []⟩, rfl, rfl, race_nil, ?_⟩
    repeat (first | (with_reducible exact HB.out) | (with_reducible refine Below.setCell ?_ (by simp <;> omega) _))
  | true =>
    have g := goodRace_iff.1 hg
    have hsm := good_punches g
    have hlen : zs.length ≤ 8 := by
      have := (race_len hg).2
      rw [← hk] at this
      simpa [Race.k] using this
    have hpz : ∀ z ∈ zs, z.card.k.punches.length ≤ 1048577 := fun z hz => by
      have := hsm z.k (by rw [← hk]; exact List.mem_map.2 ⟨z, hz, rfl⟩)
      simp only [Ent.k] at this
      omega
    have HC := Lib.hid (IsRace_any _ _ HIN.out)
    rw [hk, hg] at HC
    go_enter Try.func38, Try.ntmps38
    have l10 := HL1.out.range 0 _ rfl
    have l11 := HL1.out.range 1 _ rfl
    have l12 := HL1.out.range 2 _ rfl
    have l20 := HL2.out.range 0 _ rfl
    have l21 := HL2.out.range 1 _ rfl
    have l22 := HL2.out.range 2 _ rfl
    have l30 := HL3.out.range 0 _ rfl
    have l31 := HL3.out.range 1 _ rfl
    have l32 := HL3.out.range 2 _ rfl
    have lf3 := HL3.out.frozen
    simp only [Nat.zero_add] at l10 l11 l12 l20 l21 l22 l30 l31 l32
    go_wp2_with fail
    refine HC.out.mono ?_
    rintro e w' ⟨rfl, hb⟩
    have HNR := Lib.hid (newRace_any ⟨cl, cd, A, zs.length, c, zs⟩ w' (HIN.out.below hb) (by simp only; omega) hpz)
    have hsz : w.heap.size + 3 ≤ w'.heap.size := by have := hb.size; rw [HZ.out] at this; exact this
    replace HB := Lib.hid (step_ HB.out (Nat.le_refl _) hb)
    clear l10 l11 l12 l20 l21 l22 l30 l31 l32 lf3
    replace HL1 := Lib.hid (HL1.out.below hb)
    replace HL2 := Lib.hid (HL2.out.below hb)
    replace HL3 := Lib.hid (HL3.out.below hb)
    have l10 := HL1.out.range 0 _ rfl
    have l11 := HL1.out.range 1 _ rfl
    have l12 := HL1.out.range 2 _ rfl
    have l20 := HL2.out.range 0 _ rfl
    have l21 := HL2.out.range 1 _ rfl
    have l22 := HL2.out.range 2 _ rfl
    have l30 := HL3.out.range 0 _ rfl
    have l31 := HL3.out.range 1 _ rfl
    have l32 := HL3.out.range 2 _ rfl
    have lf3 := HL3.out.frozen
    simp only [Nat.zero_add] at l10 l11 l12 l20 l21 l22 l30 l31 l32
    clear hb HC hW hz HZ
    go_wp2_with fail
    refine HNR.out.mono ?_
    rintro e w2 ⟨⟨cl', cd', A', n', c', zs'⟩, he, hk', hR', hb⟩
    obtain rfl : e = .returned (.agg #[.int .i64 cl', .bool cd', .slice A' n' c']) := he
    have hsz2 := hb.size
    have HRA := Lib.hid (show RaceAt (w.heap.size + 3) (w2.alloc (.cells #[.int .i64 cl', .bool cd', .slice A' n' c'] 24)) w2.heap.size ⟨cl', cd', A', n', c', zs'⟩ from
      ⟨LitAt.new w2 24 [.int .i64 cl', .bool cd', .slice A' n' c'] _ rfl, RaceR.below (RaceR.mono hR' hsz) (below_alloc (Below.refl _ _) _), fun q hq => by have := (RaceR.lt hR' q hq).2; omega⟩)
    have hb3 : Below w2.heap.size w2 (w2.alloc (.cells #[.int .i64 cl', .bool cd', .slice A' n' c'] 24)) := below_alloc (Below.refl _ _) _
    replace HB := Lib.hid (step_ (step_ HB.out (Nat.le_refl _) hb) (Nat.le_refl _) hb3)
    clear l10 l11 l12 l20 l21 l22 l30 l31 l32 lf3
    replace HL1 := Lib.hid ((HL1.out.below hb).below hb3)
    replace HL2 := Lib.hid ((HL2.out.below hb).below hb3)
    replace HL3 := Lib.hid ((HL3.out.below hb).below hb3)
    have l10 := HL1.out.range 0 _ rfl
    have l11 := HL1.out.range 1 _ rfl
    have l12 := HL1.out.range 2 _ rfl
    have l20 := HL2.out.range 0 _ rfl
    have l21 := HL2.out.range 1 _ rfl
    have l22 := HL2.out.range 2 _ rfl
    have l30 := HL3.out.range 0 _ rfl
    have l31 := HL3.out.range 1 _ rfl
    have l32 := HL3.out.range 2 _ rfl
    have lf3 := HL3.out.frozen
    simp only [Nat.zero_add] at l10 l11 l12 l20 l21 l22 l30 l31 l32
    have HSR := Lib.hid (stepRace_any (w.heap.size + 3) w2.heap.size ⟨cl', cd', A', n', c', zs'⟩ ⟨s0, s1, s2⟩ _ HRA.out (by simp; omega) (by omega) (by rw [hk', hk]; exact g))
    rw [hk', hk] at HSR
    have hgW : w.heap.size + 3 ≤ w2.heap.size := by omega
    clear hb hb3 hR' hk' HNR hsm hpz HIN
    go_wp2_with fail
    refine HSR.out.mono ?_
    rintro e w4 ⟨rfl, ⟨cl4, cd4, A4, n4, c4, zs4⟩, hk4, hR4, hb4⟩
    have HK4 := Lib.hid hk4
    have HR4 := Lib.hid hR4.2.1
    replace HRA := Lib.hid hR4
    replace HB := Lib.hid (HB.out.trans (hb4.mono (by omega)))
    obtain ⟨r0, r1, r2, rf⟩ := hR4.cells
    simp only at r0 r1 r2
    clear l10 l11 l12 l20 l21 l22 l30 l31 l32 lf3
    have hlk : ∀ q cs t, LitAt (w2.alloc (.cells #[.int .i64 cl', .bool cd', .slice A' n' c'] 24)) q t cs → q < w.heap.size + 3 → LitAt w4 q t cs := fun q cs t hq hlt => by
      unfold LitAt
      rw [hb4.block q hlt]
      exact hq
    replace HL1 := Lib.hid (hlk _ _ _ HL1.out (by omega))
    replace HL2 := Lib.hid (hlk _ _ _ HL2.out (by omega))
    replace HL3 := Lib.hid (hlk _ _ _ HL3.out (by omega))
    have l10 := HL1.out.range 0 _ rfl
    have l11 := HL1.out.range 1 _ rfl
    have l12 := HL1.out.range 2 _ rfl
    have l20 := HL2.out.range 0 _ rfl
    have l21 := HL2.out.range 1 _ rfl
    have l22 := HL2.out.range 2 _ rfl
    have l30 := HL3.out.range 0 _ rfl
    have l31 := HL3.out.range 1 _ rfl
    have l32 := HL3.out.range 2 _ rfl
    have lf3 := HL3.out.frozen
    simp only [Nat.zero_add] at l10 l11 l12 l20 l21 l22 l30 l31 l32
    clear hlk hb4 hR4 hk4 HSR
    cases hs : stepB k ⟨s0, s1, s2⟩ with
    | false =>
      have HT := Lib.hid (strB_no hs)
      have HV := Lib.hid (strV_no HT.out)
      go_wp2_with fail
      refine bodyPost_ret (v := .tuple #[.agg #[.int .i64 0, .bool false, .slice none 0 0], .bool false]) (by simp [results, Try.results38, go_sem, l30, l31, l32]) rfl ⟨⟨0, false, none, 0, 0, []⟩, by rw [HT.out], by rw [HV.out]; rfl, race_nil, ?_⟩
      repeat (first | (with_reducible exact HB.out) | (with_reducible refine Below.setCell ?_ (by simp <;> omega) _))
    | true =>
      have HT := Lib.hid (strB_yes hg hs)
      have HV := Lib.hid ((stepN_yes hs).symm.trans HK4.out.symm)
      go_wp2_with fail
      refine bodyPost_ret (v := .tuple #[.agg #[.int .i64 cl4, .bool cd4, .slice A4 n4 c4], .bool true]) (by simp [results, Try.results38, go_sem, l30, l31, l32]) rfl ⟨⟨cl4, cd4, A4, n4, c4, zs4⟩, by rw [HT.out], ((strV_yes HT.out).trans HV.out).symm, ?_, ?_⟩
      · refine RaceR.mono (base := w.heap.size + 3) ?_ (by omega)
        repeat (first | (with_reducible exact HR4.out) | (with_reducible refine RaceR.setOther ?_ (by omega) _))
      · skip
        repeat (first | (with_reducible exact HB.out) | (with_reducible refine Below.setCell ?_ (by simp <;> omega) _))
theorem rrB_bad {k : RaceK} {ss : List Step} (h : goodRace k = false) : rrB k ss = false := by simp [rrB, h]
theorem rrB_long {k : RaceK} {ss : List Step} (h : 30 < ss.length) : rrB k ss = false := by simp [rrB]; omega
theorem rrB_yes {k : RaceK} {ss : List Step} (h : goodRace k = true) (h' : ss.length ≤ 30) : rrB k ss = true := by simp [rrB, h, h']
theorem rrV_no {k : RaceK} {ss : List Step} (h : rrB k ss = false) : rrV k ss = ⟨0, false, []⟩ := by simp [rrV, h]
theorem rrN_no {k : RaceK} {ss : List Step} (h : rrB k ss = false) : rrN k ss = 0 := by simp [rrN, h]
theorem rrV_yes {k : RaceK} {ss : List Step} (h : rrB k ss = true) : rrV k ss = runV k ss := by simp [rrV, h]
theorem rrN_yes {k : RaceK} {ss : List Step} (h : rrB k ss = true) : rrN k ss = (runN k ss : Int) := by simp [rrN, h]
set_option maxRecDepth 100000 in
set_option maxHeartbeats 8000000 in
theorem impl_RunRace (p : Race) (k : RaceK) (ss : List Step) (v : Value) (w : World) (hk : p.k = k) (h : p.In w) (hs : Sl (Flat Step.lst) 3 w v ss) (_ : ∀ x ∈ ss, Step.ok x) :
    Calls Try.prog 42 #[p.val, v] w fun e w' => ∃ p' : Race, e = .returned (.tuple #[.agg #[.int .i64 p'.clock, .bool p'.closed, .slice p'.a p'.n p'.c], .int .i64 (rrN k ss), .bool (rrB k ss)]) ∧ p'.k = rrV k ss ∧ RaceR w.heap.size w' p' ∧ Below w.heap.size w w' := by
  have hpl := h.len
  obtain ⟨cl, cd, A, n, c, zs⟩ := p
  simp only at hpl
  subst hpl
  obtain ⟨VA, vc, rfl, hvc, hvm, hvk⟩ := hs.open_
  have hW : Below w.heap.size w ((w.alloc (.cells #[.int .i64 cl, .bool cd, .slice A zs.length c] 24)).alloc (.cells #[.int .i64 0, .bool false, .slice none 0 0] 24)) := below_alloc (below_alloc (Below.refl _ _) _) _
  have hz : ((w.alloc (.cells #[.int .i64 cl, .bool cd, .slice A zs.length c] 24)).alloc (.cells #[.int .i64 0, .bool false, .slice none 0 0] 24)).heap.size = w.heap.size + 2 := by simp
  have hl1 : LitAt ((w.alloc (.cells #[.int .i64 cl, .bool cd, .slice A zs.length c] 24)).alloc (.cells #[.int .i64 0, .bool false, .slice none 0 0] 24)) w.heap.size 24 [.int .i64 cl, .bool cd, .slice A zs.length c] := LitAt.alloc (LitAt.new _ _ _ _ rfl) _
  have hl3 : LitAt ((w.alloc (.cells #[.int .i64 cl, .bool cd, .slice A zs.length c] 24)).alloc (.cells #[.int .i64 0, .bool false, .slice none 0 0] 24)) (w.heap.size + 1) 24 [.int .i64 0, .bool false, .slice none 0 0] := LitAt.new _ _ _ _ (by simp)
  have HB := Lib.hid hW
  have HIN := Lib.hid (h.below hW)
  have HL1 := Lib.hid hl1
  have HL3 := Lib.hid hl3
  have HZ := Lib.hid hz
  clear h hs hl1 hl3
  show Calls Try.prog 42 #[.agg #[.int .i64 cl, .bool cd, .slice A zs.length c], .slice VA ss.length vc] w _
  cases hg : goodRace k with
  | false =>
    have HT := Lib.hid (rrB_bad (ss := ss) hg)
    have HC := Lib.hid (IsRace_any _ _ HIN.out)
    rw [hk, hg] at HC
    rw [rrV_no HT.out, rrN_no HT.out, HT.out]
    go_enter Try.func42, Try.ntmps42
    have l10 := HL1.out.range 0 _ rfl
    have l11 := HL1.out.range 1 _ rfl
    have l12 := HL1.out.range 2 _ rfl
    have l30 := HL3.out.range 0 _ rfl
    have l31 := HL3.out.range 1 _ rfl
    have l32 := HL3.out.range 2 _ rfl
    have lf3 := HL3.out.frozen
    simp only [Nat.zero_add] at l10 l11 l12 l30 l31 l32
    go_wp2_with fail
    refine HC.out.mono ?_
    rintro e w' ⟨rfl, hb⟩
    replace HB := Lib.hid (step_ HB.out (Nat.le_refl _) hb)
    clear l10 l11 l12 l30 l31 l32 lf3
    replace HL1 := Lib.hid (HL1.out.below hb)
    replace HL3 := Lib.hid (HL3.out.below hb)
    have l10 := HL1.out.range 0 _ rfl
    have l11 := HL1.out.range 1 _ rfl
    have l12 := HL1.out.range 2 _ rfl
    have l30 := HL3.out.range 0 _ rfl
    have l31 := HL3.out.range 1 _ rfl
    have l32 := HL3.out.range 2 _ rfl
    have lf3 := HL3.out.frozen
    simp only [Nat.zero_add] at l10 l11 l12 l30 l31 l32
    clear hb hW hz
    go_wp2_with fail
    refine bodyPost_ret (v := .tuple #[.agg #[.int .i64 0, .bool false, .slice none 0 0], .int .i64 0, .bool false]) (by simp [results, Try.results42, go_sem, l30, l31, l32]) rfl ⟨⟨0, false, none, 0, 0, []⟩, rfl, rfl, race_nil, ?_⟩
    repeat (first | (with_reducible exact HB.out) | (with_reducible refine Below.setCell ?_ (by simp <;> omega) _))
  | true =>
    have g := goodRace_iff.1 hg
    have hsm := good_punches g
    have hlen : zs.length ≤ 8 := by
      have := (race_len hg).2
      rw [← hk] at this
      simpa [Race.k] using this
    have hpz : ∀ z ∈ zs, z.card.k.punches.length ≤ 1048577 := fun z hz => by
      have := hsm z.k (by rw [← hk]; exact List.mem_map.2 ⟨z, hz, rfl⟩)
      simp only [Ent.k] at this
      omega
    have HC := Lib.hid (IsRace_any _ _ HIN.out)
    rw [hk, hg] at HC
    by_cases hl30 : 30 < ss.length
    · have HT := Lib.hid (rrB_long (k := k) hl30)
      have hl30' : (30 : Int) < (ss.length : Int) := by omega
      rw [rrV_no HT.out, rrN_no HT.out, HT.out]
      go_enter Try.func42, Try.ntmps42
      have l10 := HL1.out.range 0 _ rfl
      have l11 := HL1.out.range 1 _ rfl
      have l12 := HL1.out.range 2 _ rfl
      have l30 := HL3.out.range 0 _ rfl
      have l31 := HL3.out.range 1 _ rfl
      have l32 := HL3.out.range 2 _ rfl
      have lf3 := HL3.out.frozen
      simp only [Nat.zero_add] at l10 l11 l12 l30 l31 l32
      go_wp2_with fail
      refine HC.out.mono ?_
      rintro e w' ⟨rfl, hb⟩
      replace HB := Lib.hid (step_ HB.out (Nat.le_refl _) hb)
      clear l10 l11 l12 l30 l31 l32 lf3
      replace HL1 := Lib.hid (HL1.out.below hb)
      replace HL3 := Lib.hid (HL3.out.below hb)
      have l10 := HL1.out.range 0 _ rfl
      have l11 := HL1.out.range 1 _ rfl
      have l12 := HL1.out.range 2 _ rfl
      have l30 := HL3.out.range 0 _ rfl
      have l31 := HL3.out.range 1 _ rfl
      have l32 := HL3.out.range 2 _ rfl
      have lf3 := HL3.out.frozen
      simp only [Nat.zero_add] at l10 l11 l12 l30 l31 l32
      clear hb hW hz
      go_wp2_with fail
      refine bodyPost_ret (v := .tuple #[.agg #[.int .i64 0, .bool false, .slice none 0 0], .int .i64 0, .bool false]) (by simp [results, Try.results42, go_sem, l30, l31, l32]) rfl ⟨⟨0, false, none, 0, 0, []⟩, rfl, rfl, race_nil, ?_⟩
      repeat (first | (with_reducible exact HB.out) | (with_reducible refine Below.setCell ?_ (by simp <;> omega) _))
    have hl30' : ¬ (30 : Int) < (ss.length : Int) := by omega
    have HT := Lib.hid (rrB_yes (ss := ss) hg (by omega))
    have HTV := Lib.hid (rrV_yes HT.out)
    have HTN := Lib.hid (rrN_yes HT.out)
    go_enter Try.func42, Try.ntmps42
    have l10 := HL1.out.range 0 _ rfl
    have l11 := HL1.out.range 1 _ rfl
    have l12 := HL1.out.range 2 _ rfl
    have l30 := HL3.out.range 0 _ rfl
    have l31 := HL3.out.range 1 _ rfl
    have l32 := HL3.out.range 2 _ rfl
    have lf3 := HL3.out.frozen
    simp only [Nat.zero_add] at l10 l11 l12 l30 l31 l32
    go_wp2_with fail
    refine HC.out.mono ?_
    rintro e w' ⟨rfl, hb⟩
    have HNR := Lib.hid (newRace_any ⟨cl, cd, A, zs.length, c, zs⟩ w' (HIN.out.below hb) (by simp only; omega) hpz)
    have hsz : w.heap.size + 2 ≤ w'.heap.size := by have := hb.size; rw [HZ.out] at this; exact this
    replace HB := Lib.hid (step_ HB.out (Nat.le_refl _) hb)
    clear l10 l11 l12 l30 l31 l32 lf3
    replace HL1 := Lib.hid (HL1.out.below hb)
    replace HL3 := Lib.hid (HL3.out.below hb)
    have l10 := HL1.out.range 0 _ rfl
    have l11 := HL1.out.range 1 _ rfl
    have l12 := HL1.out.range 2 _ rfl
    have l30 := HL3.out.range 0 _ rfl
    have l31 := HL3.out.range 1 _ rfl
    have l32 := HL3.out.range 2 _ rfl
    have lf3 := HL3.out.frozen
    simp only [Nat.zero_add] at l10 l11 l12 l30 l31 l32
    clear hb HC hW hz HZ
    go_wp2_with fail
    refine HNR.out.mono ?_
    rintro e w2 ⟨⟨cl', cd', A', n', c', zs'⟩, he, hk', hR', hb⟩
    obtain rfl : e = .returned (.agg #[.int .i64 cl', .bool cd', .slice A' n' c']) := he
    have hsz2 := hb.size
    have hb3 : Below w2.heap.size w2 (w2.alloc (.cells #[.int .i64 cl', .bool cd', .slice A' n' c'] 24)) := below_alloc (Below.refl _ _) _
    have HRA := Lib.hid (show RaceAt (w.heap.size + 2) (w2.alloc (.cells #[.int .i64 cl', .bool cd', .slice A' n' c'] 24)) w2.heap.size ⟨cl', cd', A', n', c', zs'⟩ from
      ⟨LitAt.new w2 24 [.int .i64 cl', .bool cd', .slice A' n' c'] _ rfl, RaceR.below (RaceR.mono hR' hsz) hb3, fun q hq => by have := (RaceR.lt hR' q hq).2; omega⟩)
    replace HB := Lib.hid (step_ (step_ HB.out (Nat.le_refl _) hb) (Nat.le_refl _) hb3)
    clear l10 l11 l12 l30 l31 l32 lf3
    replace HL3 := Lib.hid ((HL3.out.below hb).below hb3)
    have HK0 := Lib.hid (show (Race.k ⟨cl', cd', A', n', c', zs'⟩) = runV k (ss.take 0) by rw [hk', hk]; rfl)
    have hgW : w.heap.size + 2 ≤ w2.heap.size := by omega
    have hszA : w2.heap.size < (w2.alloc (.cells #[.int .i64 cl', .bool cd', .slice A' n' c'] 24)).heap.size := by simp
    have hgl : ∀ j, GoodRace (runV k (ss.take j)) := fun j => runV_good g _
    have HGL := Lib.hid hgl
    clear hb hb3 hR' hk' HNR hsm hpz HIN HL1 hgl hsz hsz2
    go_wp2_with fail
    go_loopw [8, 24] (fun cv iv wr => ∃ (j : Nat) (pj : Race), j ≤ ss.length ∧ iv = .int .i64 j ∧ cv = .int .i64 (runN k (ss.take j)) ∧ Hid (pj.k = runV k (ss.take j)) ∧ Hid (RaceAt (w.heap.size + 2) wr w2.heap.size pj) ∧ Hid (LitAt wr (w.heap.size + 1) 24 [.int .i64 0, .bool false, .slice none 0 0]) ∧ Hid (Below w.heap.size w wr) ∧ w2.heap.size < wr.heap.size)
      (fun _ iv _ => ss.length - (intOf iv).toNat)
    case atStart => exact ⟨0, _, by omega, rfl, by simp [runN], HK0.out, HRA.out, HL3.out, HB.out, hszA⟩
    case round =>
      clear HRA HL3 HB HK0 hszA
      obtain ⟨j, pj, hj, rfl, rfl, HK, HRA, HL3, HB, hszr⟩ := hrel
      by_cases hlt : j < ss.length
      · have hlti : (j : Int) < (ss.length : Int) := by omega
        obtain ⟨b0, off, rfl, hat⟩ := flat_at hvk (by omega)
        have hst := rangeAt_below (hat j hlt) HB.out
        have HKN := Lib.hid (runN_take hlt k)
        have HKV := Lib.hid (runV_take hlt k)
        have hle := runN_le (ss.take j) k
        simp only [List.length_take] at hle
        obtain ⟨⟨s0, s1, s2⟩, hse⟩ : ∃ s, s = ss[j] := ⟨_, rfl⟩
        rw [← hse] at hst HKN HKV
        have hba : Below wr.heap.size wr (wr.alloc (.cells #[.int .i64 s0, .int .i64 s1, .int .i64 s2] 53)) := below_alloc (Below.refl _ _) _
        have HSR := Lib.hid (stepRace_any (w.heap.size + 2) w2.heap.size pj ⟨s0, s1, s2⟩ _ (HRA.out.below hba) (by simp; omega) (by omega) (by rw [HK.out]; exact HGL.out j))
        rw [HK.out] at HSR
        have HBA := Lib.hid (step_ HB.out (Nat.le_refl _) hba)
        have HLA := Lib.hid (HL3.out.below hba)
        have HSA := Lib.hid (show w2.heap.size < (wr.alloc (.cells #[.int .i64 s0, .int .i64 s1, .int .i64 s2] 53)).heap.size by simp; omega)
        clear hse hat hvk hba HRA HL3 HB
        generalize runN k (ss.take j) = rn at *
        generalize runV k (ss.take j) = rv at *
        go_wp2_with (first
          | ((with_reducible refine at_load_ (w := wr) 53 ?_); refine Step.loadImpl rfl _ rfl b0 (off + j * 3) rfl ⟨s0, s1, s2⟩ hst ?_))
        refine HSR.out.mono ?_
        rintro e w4 ⟨rfl, p4, hk4, hR4, hb4⟩
        have HR4 := Lib.hid hR4
        have HK4 := Lib.hid hk4
        have HL4 := Lib.hid (show LitAt w4 (w.heap.size + 1) 24 [.int .i64 0, .bool false, .slice none 0 0] from by
          unfold LitAt
          rw [hb4.block _ (by omega)]
          exact HLA.out)
        have HB4 := Lib.hid (HBA.out.trans (hb4.mono (by omega)))
        have HS4 := Lib.hid (Nat.lt_of_lt_of_le HSA.out hb4.size)
        clear hR4 hk4 hb4 HSR HBA HLA HSA hst
        cases hsb : stepB rv ⟨s0, s1, s2⟩ with
        | false =>
          rw [hsb] at HKN
          have HN1 := Lib.hid (show ((rn : Int)) = ((runN k (ss.take (j + 1)) : Nat) : Int) by rw [HKN.out]; simp)
          clear hsb HKN
          go_wp2_with fail
          go_roundw
          case rel => exact ⟨j + 1, p4, by omega, by go_num, by rw [HN1.out], by show _ = _; rw [HKV.out, HK4.out], HR4.out, HL4.out, HB4.out, HS4.out⟩
          case measure => simp [intOf]; omega
        | true =>
          rw [hsb] at HKN
          have HN1 := Lib.hid (show ((rn : Int)) + 1 = ((runN k (ss.take (j + 1)) : Nat) : Int) by rw [HKN.out]; simp)
          clear hsb HKN
          go_wp2_with fail
          go_roundw
          case rel => exact ⟨j + 1, p4, by omega, by go_num, by rw [HN1.out], by show _ = _; rw [HKV.out, HK4.out], HR4.out, HL4.out, HB4.out, HS4.out⟩
          case measure => simp [intOf]; omega
      · have hlti : ¬ (j : Int) < (ss.length : Int) := by omega
        obtain rfl : j = ss.length := by omega
        rw [List.take_length] at HK ⊢
        obtain ⟨cl4, cd4, A4, n4, c4, zs4⟩ := pj
        obtain ⟨r0, r1, r2, rf⟩ := HRA.out.cells
        simp only at r0 r1 r2
        have l30 := HL3.out.range 0 _ rfl
        have l31 := HL3.out.range 1 _ rfl
        have l32 := HL3.out.range 2 _ rfl
        have lf3 := HL3.out.frozen
        simp only [Nat.zero_add] at l30 l31 l32
        go_wp2_with fail
        refine bodyPost_ret (v := .tuple #[.agg #[.int .i64 cl4, .bool cd4, .slice A4 n4 c4], .int .i64 (runN k ss), .bool true]) (by simp [results, Try.results42, go_sem, l30, l31, l32]) rfl ⟨⟨cl4, cd4, A4, n4, c4, zs4⟩, by rw [HT.out, HTN.out], by rw [HTV.out]; exact HK.out, ?_, ?_⟩
        · refine RaceR.mono (base := w.heap.size + 2) ?_ (by omega)
          have h0 := HRA.out.2.1
          repeat (first | (with_reducible exact h0) | (with_reducible refine RaceR.setOther ?_ (by omega) _))
        · skip
          repeat (first | (with_reducible exact HB.out) | (with_reducible refine Below.setCell ?_ (by simp <;> omega) _))
end Go.Proofs.Ytfmgnbkneccekaa
