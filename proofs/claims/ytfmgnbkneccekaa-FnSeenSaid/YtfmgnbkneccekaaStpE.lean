/- A step of a race, the reference's: whether it is valid; steps that are not one entrant's. No condition. -/
import Derived.Test.YtfmgnbkneccekaaStpD
import Derived.Test.YtfmgnbkneccekaaRcG
namespace Go.Proofs.Ytfmgnbkneccekaa
open Go Go.RowKit

/-- Whether a step is valid, by the reference's own test. -/
def sgB (k : RaceK) (s : Step) : Bool :=
  if s.kind = 1 then s.entrant == 0 && decide (1 ≤ s.value)
  else if s.kind = 6 then s.entrant == 0 && s.value == 0
  else if s.kind = 3 then inB s.entrant 0 ((k.field.length : Int) - 1) && inB s.value 31 99
  else inB s.kind 2 5 && inB s.entrant 0 ((k.field.length : Int) - 1) && s.value == 0
theorem sgB_step {k : RaceK} {s : Step} (h : stepB k s = true) : sgB k s = true := by
  unfold stepB at h
  unfold sgB
  by_cases h1 : s.kind = 1
  · rw [if_pos h1] at h ⊢
    simp only [Bool.and_eq_true] at h
    have := inB_iff.1 h.2
    simp [h.1.2]; omega
  rw [if_neg h1] at h ⊢
  by_cases h6 : s.kind = 6
  · rw [if_pos h6] at h ⊢
    simp only [Bool.and_eq_true] at h
    simp [h.1.1.2, h.1.2]
  rw [if_neg h6] at h ⊢
  unfold entB at h
  simp only [Bool.and_eq_true] at h
  obtain ⟨hi, h⟩ := h
  cases he : k.field[s.entrant.toNat]? with
  | none => rw [he] at h; cases h
  | some e =>
    rw [he] at h
    simp only [entStepB] at h
    by_cases h3 : s.kind = 3
    · rw [if_pos h3]
      rw [if_neg (by omega), if_pos h3] at h
      simp only [Bool.and_eq_true] at h
      simp [hi, h.1.2]
    · rw [if_neg h3]
      by_cases h2 : s.kind = 2
      · rw [if_pos h2] at h
        simp only [Bool.and_eq_true] at h
        have : inB s.kind 2 5 = true := inB_true (by omega) (by omega)
        simp [hi, h.2, this]
      · rw [if_neg h2, if_neg h3] at h
        by_cases h4 : s.kind = 4 ∨ s.kind = 5
        · rw [if_pos h4] at h
          simp only [Bool.and_eq_true] at h
          have : inB s.kind 2 5 = true := inB_true (by omega) (by omega)
          simp [hi, h.2, this]
        · rw [if_neg h4] at h; cases h
set_option maxRecDepth 100000 in
set_option maxHeartbeats 4000000 in
theorem l21Step_any (p : Race) (s : Step) (w : World) (h : p.In w) :
    Calls Try.prog 75 #[p.val, s.val] w fun e w' => e = .returned (.bool (sgB p.k s)) ∧ Below w.heap.size w w' := by
  have hpl := h.len
  obtain ⟨⟨A0, c0, hv, hc0, hm0, _⟩, _⟩ := h
  obtain ⟨cl, cd, A, n, c, zs⟩ := p
  obtain ⟨s0, s1, s2⟩ := s
  simp only at hpl
  subst hpl
  simp only [Value.slice.injEq] at hv
  obtain ⟨rfl, _, rfl⟩ := hv
  simp only at hc0
  have hm1 : c ≤ 9223372036854775807 := by simpa [maxLen] using hm0
  have HB := Lib.hid (show Below w.heap.size w ((w.alloc (.cells #[.int .i64 cl, .bool cd, .slice A zs.length c] 24)).alloc (.cells #[.int .i64 s0, .int .i64 s1, .int .i64 s2] 53)) from below_alloc (below_alloc (Below.refl _ _) _) _)
  obtain ⟨r, hr⟩ : ∃ r, r = sgB (Race.k ⟨cl, cd, A, zs.length, c, zs⟩) ⟨s0, s1, s2⟩ := ⟨_, rfl⟩
  have HS := Lib.hid hr
  have HU := Lib.hid (show sgB (Race.k ⟨cl, cd, A, zs.length, c, zs⟩) ⟨s0, s1, s2⟩ = if s0 = 1 then s1 == 0 && decide (1 ≤ s2) else if s0 = 6 then s1 == 0 && s2 == 0 else if s0 = 3 then inB s1 0 ((zs.length : Int) - 1) && inB s2 31 99 else inB s0 2 5 && inB s1 0 ((zs.length : Int) - 1) && s2 == 0 from by simp [sgB, Race.k])
  rw [← hr]
  clear hr hm0
  obtain ⟨b1, hb1⟩ : ∃ b, inB s1 0 ((zs.length : Int) - 1) = b := ⟨_, rfl⟩
  obtain ⟨b2, hb2⟩ : ∃ b, inB s2 31 99 = b := ⟨_, rfl⟩
  obtain ⟨b3, hb3⟩ : ∃ b, inB s0 2 5 = b := ⟨_, rfl⟩
  rw [hb1, hb2, hb3] at HU
  have HI1 := Lib.hid (fun W => l1In_is _ _ _ _ hb1 W)
  have HI2 := Lib.hid (fun W => l6Code_is _ _ hb2 W)
  have HI3 := Lib.hid (fun W => l1In_is _ _ _ _ hb3 W)
  clear hb1 hb2 hb3
  show Calls Try.prog 75 #[.agg #[.int .i64 cl, .bool cd, .slice A zs.length c], .agg #[.int .i64 s0, .int .i64 s1, .int .i64 s2]] w _
  by_cases h1 : s0 = 1
  · subst h1
    have HT := Lib.hid (HS.out.trans (HU.out.trans (if_pos rfl)))
    clear HS HU HI1 HI2 HI3
    by_cases e1 : s1 = 0
    · subst e1
      go_enter Try.func75, Try.ntmps75
      go_wp2_with fail
      go_ret
      exact ⟨ret_bool (by rw [HT.out]; simp), HB.out⟩
    · have n1 : (s1 == 0) = false := by simpa using e1
      go_enter Try.func75, Try.ntmps75
      go_wp2_with fail
      go_ret
      exact ⟨ret_bool (by rw [HT.out]; simp [e1]), HB.out⟩
  have n1 : (s0 == 1) = false := by simpa using h1
  by_cases h6 : s0 = 6
  · subst h6
    have HT := Lib.hid (HS.out.trans (HU.out.trans ((if_neg (by decide)).trans (if_pos rfl))))
    clear HS HU HI1 HI2 HI3
    by_cases e1 : s1 = 0
    · subst e1
      go_enter Try.func75, Try.ntmps75
      go_wp2_with fail
      go_ret
      exact ⟨ret_bool (by rw [HT.out]; simp), HB.out⟩
    · have n1 : (s1 == 0) = false := by simpa using e1
      go_enter Try.func75, Try.ntmps75
      go_wp2_with fail
      go_ret
      exact ⟨ret_bool (by rw [HT.out]; simp [e1]), HB.out⟩
  have n6 : (s0 == 6) = false := by simpa using h6
  by_cases h3 : s0 = 3
  · subst h3
    have HT := Lib.hid (HS.out.trans (HU.out.trans ((if_neg (by decide)).trans ((if_neg (by decide)).trans (if_pos rfl)))))
    clear HS HU HI3
    cases b1 with
    | false =>
      go_enter Try.func75, Try.ntmps75
      go_wp2_with fail
      refine (HI1.out _).mono ?_
      rintro e w' ⟨rfl, rfl⟩
      go_wp2_with fail
      go_ret
      exact ⟨ret_bool (by rw [HT.out]; rfl), HB.out⟩
    | true =>
      go_enter Try.func75, Try.ntmps75
      go_wp2_with fail
      refine (HI1.out _).mono ?_
      rintro e w' ⟨rfl, rfl⟩
      go_wp2_with fail
      refine (HI2.out _).mono ?_
      rintro e w' ⟨rfl, rfl⟩
      go_wp2_with fail
      go_ret
      exact ⟨ret_bool (by rw [HT.out]; rfl), HB.out⟩
  have n3 : (s0 == 3) = false := by simpa using h3
  have HT := Lib.hid (HS.out.trans (HU.out.trans ((if_neg h1).trans ((if_neg h6).trans (if_neg h3)))))
  clear HS HU HI2 h1 h6 h3
  cases b3 with
  | false =>
    go_enter Try.func75, Try.ntmps75
    go_wp2_with fail
    refine (HI3.out _).mono ?_
    rintro e w' ⟨rfl, rfl⟩
    go_wp2_with fail
    go_ret
    exact ⟨ret_bool (by rw [HT.out]; rfl), HB.out⟩
  | true =>
    cases b1 with
    | false =>
      go_enter Try.func75, Try.ntmps75
      go_wp2_with fail
      refine (HI3.out _).mono ?_
      rintro e w' ⟨rfl, rfl⟩
      go_wp2_with fail
      refine (HI1.out _).mono ?_
      rintro e w' ⟨rfl, rfl⟩
      go_wp2_with fail
      go_ret
      exact ⟨ret_bool (by rw [HT.out]; rfl), HB.out⟩
    | true =>
      go_enter Try.func75, Try.ntmps75
      go_wp2_with fail
      refine (HI3.out _).mono ?_
      rintro e w' ⟨rfl, rfl⟩
      go_wp2_with fail
      refine (HI1.out _).mono ?_
      rintro e w' ⟨rfl, rfl⟩
      go_wp2_with fail
      go_ret
      exact ⟨ret_bool (by rw [HT.out]; simp), HB.out⟩

theorem RaceR.drew {base : Nat} {w : World} {p : Race} (h : RaceR base w p) : RaceR base w.drew p := RaceR.below h (Below.refl _ _).drew
set_option maxRecDepth 100000 in
set_option maxHeartbeats 8000000 in
theorem l21All1 (p : Race) (s : Step) (w : World) (h : p.In w) (g : GoodRace p.k) (hs : sgB p.k s = true) (hk : s.kind = 1) :
    Calls Try.prog 100 #[p.val, s.val] w fun e w' => ∃ p' : Race, e = .returned (.tuple #[.agg #[.int .i64 p'.clock, .bool p'.closed, .slice p'.a p'.n p'.c], .bool (stepB p.k s)]) ∧ Hid (stepB p.k s = true → p'.k = stepV p.k s) ∧ RaceR w.heap.size w' p' ∧ Below w.heap.size w w' := by
  have hpl := h.len
  have hpu := good_punches g
  obtain ⟨cl, cd, A, n, c, zs⟩ := p
  obtain ⟨s0, s1, s2⟩ := s
  simp only at hpl
  subst hpl
  have hl8 : 1 ≤ zs.length ∧ zs.length ≤ 8 := by
    have := inB_iff.1 g.2.1
    simp only [Race.k, List.length_map] at this
    omega
  have hcl : 0 ≤ cl ∧ cl ≤ 36000 := inB_iff.1 g.1
  have hpz : ∀ z ∈ zs, z.card.k.punches.length ≤ 12 := fun z hz => hpu z.k (List.mem_map.2 ⟨z, hz, rfl⟩)
  have hW : Below w.heap.size w (((w.alloc (.cells #[.int .i64 cl, .bool cd, .slice A zs.length c] 24)).alloc (.cells #[.int .i64 s0, .int .i64 s1, .int .i64 s2] 53)).alloc (.cells #[.int .i64 0, .bool false, .slice none 0 0] 24)) := below_alloc (below_alloc (below_alloc (Below.refl _ _) _) _) _
  have hz : (((w.alloc (.cells #[.int .i64 cl, .bool cd, .slice A zs.length c] 24)).alloc (.cells #[.int .i64 s0, .int .i64 s1, .int .i64 s2] 53)).alloc (.cells #[.int .i64 0, .bool false, .slice none 0 0] 24)).heap.size = w.heap.size + 3 := by simp
  have hl1 : LitAt (((w.alloc (.cells #[.int .i64 cl, .bool cd, .slice A zs.length c] 24)).alloc (.cells #[.int .i64 s0, .int .i64 s1, .int .i64 s2] 53)).alloc (.cells #[.int .i64 0, .bool false, .slice none 0 0] 24)) w.heap.size 24 [.int .i64 cl, .bool cd, .slice A zs.length c] := LitAt.alloc (LitAt.alloc (LitAt.new _ _ _ _ rfl) _) _
  have hl2 : LitAt (((w.alloc (.cells #[.int .i64 cl, .bool cd, .slice A zs.length c] 24)).alloc (.cells #[.int .i64 s0, .int .i64 s1, .int .i64 s2] 53)).alloc (.cells #[.int .i64 0, .bool false, .slice none 0 0] 24)) (w.heap.size + 1) 53 [.int .i64 s0, .int .i64 s1, .int .i64 s2] := LitAt.alloc (LitAt.new _ _ _ _ (by simp)) _
  have hl3 : LitAt (((w.alloc (.cells #[.int .i64 cl, .bool cd, .slice A zs.length c] 24)).alloc (.cells #[.int .i64 s0, .int .i64 s1, .int .i64 s2] 53)).alloc (.cells #[.int .i64 0, .bool false, .slice none 0 0] 24)) (w.heap.size + 1 + 1) 24 [.int .i64 0, .bool false, .slice none 0 0] := LitAt.new _ _ _ _ (by simp)
  have HB := Lib.hid hW
  have HIN := Lib.hid (h.below hW)
  have HL1 := Lib.hid hl1
  have HL2 := Lib.hid hl2
  have HL3 := Lib.hid hl3
  have HZ := Lib.hid hz
  have HOW := Lib.hid (l21Own_any ⟨cl, cd, A, zs.length, c, zs⟩ _ HIN.out (by simp only; omega) (fun z hz => by have := hpz z hz; omega))
  obtain rfl : s0 = 1 := hk
  have hsg : s1 = 0 ∧ 1 ≤ s2 := by simpa [sgB] using hs
  obtain ⟨rfl, hs2⟩ := hsg
  obtain ⟨b, hbb⟩ : ∃ b, decide (s2 ≤ 36000 - cl) = b := ⟨_, rfl⟩
  have HV := Lib.hid (show stepB (Race.k ⟨cl, cd, A, zs.length, c, zs⟩) ⟨1, 0, s2⟩ = (!cd && b) from by
    rw [← hbb]
    have e : inB s2 1 (36000 - cl) = decide (s2 ≤ 36000 - cl) := by unfold inB; rw [decide_eq_true hs2, Bool.true_and]
    simp [stepB, Race.k, e])
  clear h hl1 hl2 hl3 hpu hs
  show Calls Try.prog 100 #[.agg #[.int .i64 cl, .bool cd, .slice A zs.length c], .agg #[.int .i64 1, .int .i64 0, .int .i64 s2]] w _
  go_enter Try.func100, Try.ntmps100
  have l10 := HL1.out.range 0 _ rfl
  have l11 := HL1.out.range 1 _ rfl
  have l12 := HL1.out.range 2 _ rfl
  have l20 := HL2.out.range 0 _ rfl
  have l21 := HL2.out.range 1 _ rfl
  have l22 := HL2.out.range 2 _ rfl
  have l30 := HL3.out.range 0 _ rfl
  have l31 := HL3.out.range 1 _ rfl
  have l32 := HL3.out.range 2 _ rfl
  have lf3 := HL3.out.frozen
  simp only [Nat.zero_add] at l10 l11 l12 l20 l21 l22 l30 l31 l32
  go_wp2_with fail
  refine HOW.out.mono ?_
  rintro e w2 ⟨⟨cl', cd', A', n', c', zs'⟩, he, hk', hR', hb⟩
  obtain rfl : e = .returned (.agg #[.int .i64 cl', .bool cd', .slice A' n' c']) := he
  have hsz := hb.size
  rw [HZ.out] at hsz hR'
  have hb3 : ∀ x y, Below w2.heap.size w2 (w2.alloc (.cells #[.int .i64 x, .bool y, .slice A' n' c'] 24)) := fun x y => below_alloc (Below.refl _ _) _
  have HRF := Lib.hid (show ∀ x y, RaceAt (w.heap.size + 3) (w2.alloc (.cells #[.int .i64 x, .bool y, .slice A' n' c'] 24)) w2.heap.size ⟨x, y, A', n', c', zs'⟩ from
    fun x y => ⟨LitAt.new w2 24 [.int .i64 x, .bool y, .slice A' n' c'] _ rfl, EntR.below hR' (hb3 x y), fun q hq => by have := (RaceR.lt hR' q hq).2; omega⟩)
  have HBF := Lib.hid (fun x y => step_ (step_ HB.out (Nat.le_refl _) hb) (Nat.le_refl _) (hb3 x y))
  clear l10 l11 l12 l20 l21 l22 l30 l31 l32 lf3
  have HF1 := Lib.hid (fun x y => (HL1.out.below hb).below (hb3 x y))
  have HF2 := Lib.hid (fun x y => (HL2.out.below hb).below (hb3 x y))
  have HF3 := Lib.hid (fun x y => (HL3.out.below hb).below (hb3 x y))
  have HFI := Lib.hid (fun x y => (HIN.out.below hb).below (hb3 x y))
  have hn' : n' = zs'.length := (HRF.out cl' cd').len
  subst hn'
  simp only [Race.k, RaceK.mk.injEq] at hk'
  obtain ⟨rfl, rfl, hkz⟩ := hk'
  have HZL := Lib.hid (show zs'.length = zs.length by have := congrArg List.length hkz; simpa using this)
  have hszA : w.heap.size + 3 ≤ w2.heap.size := hsz
  clear hb hb3 hR' HOW hz hsz HL1 HL2 HL3 HB HIN
  have hle : s2 ≤ 36000 - cl' ↔ b = true := by rw [← hbb]; simp
  have HEV := Lib.hid (show stepB (Race.k ⟨cl', cd', A, zs.length, c, zs⟩) ⟨1, 0, s2⟩ = true → Race.k ⟨IntKind.i64.wrap (cl' + s2), cd', A', zs'.length, c', zs'⟩ = stepV (Race.k ⟨cl', cd', A, zs.length, c, zs⟩) ⟨1, 0, s2⟩ from fun ht => by
    rw [HV.out] at ht
    simp only [Bool.and_eq_true] at ht
    have h2 := hle.2 ht.2
    have hwr : IntKind.i64.wrap (cl' + s2) = cl' + s2 := by rw [IntKind.wrap_i64]; omega
    simp [stepV, Race.k, hwr, hkz])
  clear hbb hkz g
  have q10 := (HF1.out cl' cd').range 0 _ rfl
  have q20 := (HF2.out cl' cd').range 0 _ rfl
  have q22 := (HF2.out cl' cd').range 2 _ rfl
  simp only [Nat.zero_add] at q10 q20 q22
  generalize hwv : IntKind.i64.wrap (cl' + s2) = wv at HEV
  have hwr2 : IntKind.i64.wrap (36000 - cl') = 36000 - cl' := by rw [IntKind.wrap_i64]; omega
  have HRA := Lib.hid (HRF.out wv cd')
  have HB := Lib.hid (HBF.out wv cd')
  have HL1 := Lib.hid (HF1.out wv cd')
  have HL2 := Lib.hid (HF2.out wv cd')
  have HL3 := Lib.hid (HF3.out wv cd')
  obtain ⟨r0, r1, r2, rf⟩ := HRA.out.cells
  simp only at r0 r1 r2
  have l10 := HL1.out.range 0 _ rfl
  have l11 := HL1.out.range 1 _ rfl
  have l12 := HL1.out.range 2 _ rfl
  have l20 := HL2.out.range 0 _ rfl
  have l21 := HL2.out.range 1 _ rfl
  have l22 := HL2.out.range 2 _ rfl
  have l30 := HL3.out.range 0 _ rfl
  have l31 := HL3.out.range 1 _ rfl
  have l32 := HL3.out.range 2 _ rfl
  have lf3 := HL3.out.frozen
  simp only [Nat.zero_add] at l10 l11 l12 l20 l21 l22 l30 l31 l32
  have HK := Lib.hid (show ∀ w', KeptOff (fun k => k = w.heap.size + 1 + 1) (w2.alloc (.cells #[.int .i64 wv, .bool cd', .slice A' zs'.length c'] 24)) w' → w'.cell? ⟨w2.heap.size, 0, none⟩ = some (.int .i64 wv) ∧ w'.cell? ⟨w2.heap.size, 1, none⟩ = some (.bool cd') ∧ w'.cell? ⟨w2.heap.size, 2, none⟩ = some (.slice A' zs'.length c') ∧ w'.cell? ⟨w.heap.size, 0, none⟩ = some (.int .i64 cl') ∧ w'.cell? ⟨w.heap.size, 1, none⟩ = some (.bool cd') ∧ w'.cell? ⟨w.heap.size + 1, 2, none⟩ = some (.int .i64 s2) from fun w' hk =>
    ⟨hk.cell r0 (by omega), hk.cell r1 (by omega), hk.cell r2 (by omega), hk.cell l10 (by omega), hk.cell l11 (by omega), hk.cell l22 (by omega)⟩)
  have HR5 := Lib.hid HRA.out.2.1
  clear HRF HBF HF1 HF2 HF3 HFI
  cases cd' with
  | false =>
    cases b with
    | false =>
      have hle2 : 36000 - cl' < s2 := Int.not_le.1 (fun h => absurd (hle.1 h) (by decide))
      clear hle
      have HT := Lib.hid HV.out
      simp only [Bool.not_true, Bool.not_false, Bool.false_and, Bool.true_and] at HT
      go_wp2_with fail
      go_region
      all_goals
        go_wp2_with fail
        refine bodyPost_ret (v := .tuple #[.agg #[.int .i64 wv, .bool false, .slice A' zs'.length c'], .bool false]) (by simp [results, Try.results100, go_sem, l30, l31, l32, hle2]) rfl ⟨⟨wv, false, A', zs'.length, c', zs'⟩, by rw [HT.out], HEV.out, ?_, ?_⟩
        · refine RaceR.mono (base := w.heap.size + 3) ?_ (by omega)
          repeat (first | (with_reducible exact HR5.out) | (with_reducible refine RaceR.setOther ?_ (by omega) _) | (with_reducible refine RaceR.drew ?_))
        · repeat (first | (with_reducible exact HB.out) | (with_reducible refine Below.setCell ?_ (by simp <;> omega) _) | (with_reducible refine Below.drew ?_))
    | true =>
      have hle2 : s2 ≤ 36000 - cl' := hle.2 rfl
      clear hle
      have HT := Lib.hid HV.out
      simp only [Bool.not_true, Bool.not_false, Bool.false_and, Bool.true_and] at HT
      go_wp2_with fail
      go_region
      all_goals
        go_wp2_with fail
        refine bodyPost_ret (v := .tuple #[.agg #[.int .i64 wv, .bool false, .slice A' zs'.length c'], .bool true]) (by simp [results, Try.results100, go_sem, l30, l31, l32, hle2]) rfl ⟨⟨wv, false, A', zs'.length, c', zs'⟩, by rw [HT.out], HEV.out, ?_, ?_⟩
        · refine RaceR.mono (base := w.heap.size + 3) ?_ (by omega)
          repeat (first | (with_reducible exact HR5.out) | (with_reducible refine RaceR.setOther ?_ (by omega) _) | (with_reducible refine RaceR.drew ?_))
        · repeat (first | (with_reducible exact HB.out) | (with_reducible refine Below.setCell ?_ (by simp <;> omega) _) | (with_reducible refine Below.drew ?_))
  | true =>
    have hle2 : True := trivial
    clear hle
    have HT := Lib.hid HV.out
    simp only [Bool.not_true, Bool.not_false, Bool.false_and, Bool.true_and] at HT
    go_wp2_with fail
    go_region
    all_goals
      go_wp2_with fail
      refine bodyPost_ret (v := .tuple #[.agg #[.int .i64 wv, .bool true, .slice A' zs'.length c'], .bool false]) (by simp [results, Try.results100, go_sem, l30, l31, l32, hle2]) rfl ⟨⟨wv, true, A', zs'.length, c', zs'⟩, by rw [HT.out], HEV.out, ?_, ?_⟩
      · refine RaceR.mono (base := w.heap.size + 3) ?_ (by omega)
        repeat (first | (with_reducible exact HR5.out) | (with_reducible refine RaceR.setOther ?_ (by omega) _) | (with_reducible refine RaceR.drew ?_))
      · repeat (first | (with_reducible exact HB.out) | (with_reducible refine Below.setCell ?_ (by simp <;> omega) _) | (with_reducible refine Below.drew ?_))
end Go.Proofs.Ytfmgnbkneccekaa
