/- A step of a race, the program's. No condition. -/
import Derived.Test.YtfmgnbkneccekaaStpB
import Derived.Test.YtfmgnbkneccekaaRcC
namespace Go.Proofs.Ytfmgnbkneccekaa
open Go Go.RowKit

/-- Some entrants made absent. -/
def closeJ (es : List EntK) (js : List Int) : List EntK := es.mapIdx fun i e => if (i : Int) ∈ js then ⟨4, e.card⟩ else e
theorem closeJ_len (es : List EntK) (js : List Int) : (closeJ es js).length = es.length := by simp [closeJ]
theorem closeJ_nil (es : List EntK) : closeJ es [] = es := by
  apply List.ext_getElem (by simp [closeJ])
  intro i h1 h2
  simp [closeJ]
theorem closeJ_get {es : List EntK} {js : List Int} {i : Nat} (h : i < es.length) (h' : i < (closeJ es js).length) : (closeJ es js)[i].card = es[i].card := by
  simp only [closeJ, List.getElem_mapIdx]
  split <;> rfl
theorem closeJ_step {es : List EntK} {js : List Int} {zz : List Ent} (hz : zz.map Ent.k = closeJ es js) {i : Nat} (hi : i < zz.length) : (zz.set i ⟨4, zz[i].card⟩).map Ent.k = closeJ es (js ++ [(i : Int)]) := by
  have hl : zz.length = es.length := by have := congrArg List.length hz; simpa [closeJ_len] using this
  have hc : zz[i].card.k = es[i].card := by
    have h1 : (zz.map Ent.k)[i]? = (closeJ es js)[i]? := by rw [hz]
    rw [List.getElem?_eq_getElem (by simpa using hi), List.getElem?_eq_getElem (by rw [closeJ_len]; omega)] at h1
    have h2 := congrArg EntK.card (Option.some.inj h1)
    rw [closeJ_get (by omega)] at h2
    simpa [Ent.k] using h2
  rw [List.map_set, hz]
  apply List.ext_getElem (by simp [closeJ])
  intro j h1 h2
  have hj : j < es.length := by simpa [closeJ] using h2
  by_cases e : i = j
  · subst e
    simp [closeJ, Ent.k, hc]
  · rw [List.getElem_set_ne e]
    simp only [closeJ, List.getElem_mapIdx, List.mem_append, List.mem_singleton]
    have : ¬ ((j : Int) = (i : Int)) := by omega
    simp [this]
theorem mem_outL {st : Int} {es : List EntK} {x : Int} : x ∈ outL st es ↔ ∃ (i : Nat) (h : i < es.length), x = i ∧ es[i].state = st := by
  unfold outL
  simp only [List.mem_map, List.mem_filter, List.mem_zipIdx_iff_getElem?, beq_iff_eq]
  constructor
  · rintro ⟨⟨e, i⟩, ⟨h1, h2⟩, rfl⟩
    obtain ⟨hi, he⟩ := List.getElem?_eq_some_iff.1 h1
    exact ⟨i, hi, rfl, by rw [he]; exact h2⟩
  · rintro ⟨i, hi, rfl, hs⟩
    exact ⟨(es[i], i), ⟨List.getElem?_eq_getElem hi, hs⟩, rfl⟩
theorem closeJ_all (es : List EntK) : closeJ es (outL 0 es) = es.map closeE := by
  apply List.ext_getElem (by simp [closeJ])
  intro i h1 h2
  have hi : i < es.length := by simpa [closeJ] using h1
  simp only [closeJ, List.getElem_mapIdx, List.getElem_map, closeE]
  by_cases hs : es[i].state = 0
  · rw [if_pos hs, if_pos (mem_outL.2 ⟨i, hi, rfl, hs⟩)]
  · rw [if_neg hs, if_neg (fun h => by
      obtain ⟨j, hj, e, h⟩ := mem_outL.1 h
      have : i = j := by omega
      subst this
      exact hs h)]
theorem outL_none {es : List EntK} (h : noneOut es = true) : outL 1 es = [] := by
  rw [List.eq_nil_iff_forall_not_mem]
  intro x hx
  obtain ⟨i, hi, _, hs⟩ := mem_outL.1 hx
  exact noneOut_iff.1 h _ (List.getElem_mem hi) hs
theorem outL_some {es : List EntK} (h : noneOut es = false) : 0 < (outL 1 es).length := by
  have : ∃ e ∈ es, e.state = 1 := by simpa [noneOut] using h
  obtain ⟨e, he, hs⟩ := this
  obtain ⟨i, hi, rfl⟩ := List.getElem_of_mem he
  exact List.length_pos_of_mem (mem_outL.2 ⟨i, hi, rfl, hs⟩)
theorem stepN_no {k : RaceK} {s : Step} (h : stepB k s = false) : stepN k s = k := by simp [stepN, h]
theorem stepN_yes {k : RaceK} {s : Step} (h : stepB k s = true) : stepN k s = stepV k s := by simp [stepN, h]

set_option maxRecDepth 100000 in
set_option maxHeartbeats 8000000 in
theorem stepRace1 (B g : Nat) (p : Race) (s : Step) (w : World) (h : RaceAt B w g p) (hB : B ≤ w.heap.size) (hBg : B ≤ g) (hg : GoodRace p.k) (hk : s.kind = 1) :
    Calls Try.prog 77 #[.pointer (some ⟨g, 0, none⟩), s.val] w fun e w' => e = .returned (.bool (stepB p.k s)) ∧ ∃ p' : Race, p'.k = stepN p.k s ∧ RaceAt B w' g p' ∧ Below B w w' := by
  obtain ⟨s0, s1, s2⟩ := s
  have hn := h.len
  have hpu := good_punches hg
  obtain ⟨cl, cd, A, n, c, zs⟩ := p
  simp only at hn
  subst hn
  have hl8 : 1 ≤ zs.length ∧ zs.length ≤ 8 := by
    have := inB_iff.1 hg.2.1
    simp only [Race.k, List.length_map] at this
    omega
  have hcl : 0 ≤ cl ∧ cl ≤ 36000 := inB_iff.1 hg.1
  have HPU := Lib.hid (show ∀ z ∈ zs, z.card.k.punches.length ≤ 12 from fun z hz => hpu z.k (List.mem_map.2 ⟨z, hz, rfl⟩))
  have hW : Below w.heap.size w (w.alloc (.cells #[.int .i64 s0, .int .i64 s1, .int .i64 s2] 53)) := below_alloc (Below.refl _ _) _
  have HR := Lib.hid (h.below hW)
  have HS := Lib.hid (Step.rangeNew w ⟨s0, s1, s2⟩ 53)
  have HB := Lib.hid (hW.mono hB)
  obtain ⟨hcm1, hcm2⟩ : zs.length ≤ c ∧ c ≤ 9223372036854775807 := by
    obtain ⟨_, _, h1, h2, h3⟩ := h.2.1.1.parts
    simp only [Value.slice.injEq, List.length_map] at h1 h2
    omega
  clear hg hpu
  show Calls Try.prog 77 #[.pointer (some ⟨g, 0, none⟩), .agg #[.int .i64 s0, .int .i64 s1, .int .i64 s2]] w _
  obtain rfl : s0 = 1 := hk
  try clear hk
  · skip
    have HV := Lib.hid (show stepB (Race.k ⟨cl, cd, A, zs.length, c, zs⟩) ⟨1, s1, s2⟩ = (!cd && s1 == 0 && inB s2 1 (36000 - cl)) from by simp [stepB, Race.k])
    clear h hW
    cases cd with
    | true =>
      have HT := Lib.hid (HV.out.trans (show (!true && s1 == 0 && inB s2 1 (36000 - cl)) = false by simp))
      go_enter Try.func77, Try.ntmps77
      go_wp2
      obtain ⟨r0, r1, r2, rf⟩ := HR.out.cells
      have r3 := Step.cells HS.out
      simp only [Nat.zero_add] at r0 r1 r2 r3
      obtain ⟨r3, r4, r5⟩ := r3
      have a0 := After.keep r0
      have a1 := After.keep r1
      have a2 := After.keep r2
      have a3 := After.keep r3
      have a4 := After.keep r4
      have a5 := After.keep r5
      refine region_after (by kernel_rfl) (by kernel_rfl) ?_
      repeat (any_goals (first | go_big_quiet_step (fail)  | quiet_step (fail) | (refine wpQuiet_step (fun K hK => ?_); go_simp; split <;> (refine hK _ ?_; clear hK K))))
      all_goals (refine wpQuiet_nil ?_; intro s)
      replace HR := Lib.hid (HR.out.below s.hb)
      replace HS := Lib.hid (rangeAt_below HS.out s.hb)
      replace HB := Lib.hid (HB.out.trans (s.hb.mono (Nat.le_trans hB HB.out.size)))
      clear r0 r1 r2 r3 r4 r5 rf a0 a1 a2 a3 a4 a5
      generalize s.w' = W at HR HS HB ⊢
      obtain ⟨r0, r1, r2, rf⟩ := HR.out.cells
      have r3 := Step.cells HS.out
      simp only [Nat.zero_add] at r0 r1 r2 r3
      obtain ⟨r3, r4, r5⟩ := r3
      have a0 := After.keep r0
      have a1 := After.keep r1
      have a2 := After.keep r2
      have a3 := After.keep r3
      have a4 := After.keep r4
      have a5 := After.keep r5
      go_wp2
      go_ret
      exact ⟨ret_bool HT.out.symm, ⟨cl, true, A, zs.length, c, zs⟩, (stepN_no HT.out).symm, HR.out, HB.out⟩
    | false =>
      by_cases hs1 : s1 = 0
      rotate_left
      · have HT := Lib.hid (HV.out.trans (show _ = false by simp [hs1]))
        have n1 : (s1 != 0) = true := by simpa using hs1
        clear hs1
        go_enter Try.func77, Try.ntmps77
        go_wp2
        obtain ⟨r0, r1, r2, rf⟩ := HR.out.cells
        have r3 := Step.cells HS.out
        simp only [Nat.zero_add] at r0 r1 r2 r3
        obtain ⟨r3, r4, r5⟩ := r3
        have a0 := After.keep r0
        have a1 := After.keep r1
        have a2 := After.keep r2
        have a3 := After.keep r3
        have a4 := After.keep r4
        have a5 := After.keep r5
        refine region_after (by kernel_rfl) (by kernel_rfl) ?_
        repeat (any_goals (first | go_big_quiet_step (fail)  | quiet_step (fail) | (refine wpQuiet_step (fun K hK => ?_); go_simp; split <;> (refine hK _ ?_; clear hK K))))
        all_goals (refine wpQuiet_nil ?_; intro s)
        replace HR := Lib.hid (HR.out.below s.hb)
        replace HS := Lib.hid (rangeAt_below HS.out s.hb)
        replace HB := Lib.hid (HB.out.trans (s.hb.mono (Nat.le_trans hB HB.out.size)))
        clear r0 r1 r2 r3 r4 r5 rf a0 a1 a2 a3 a4 a5
        generalize s.w' = W at HR HS HB ⊢
        obtain ⟨r0, r1, r2, rf⟩ := HR.out.cells
        have r3 := Step.cells HS.out
        simp only [Nat.zero_add] at r0 r1 r2 r3
        obtain ⟨r3, r4, r5⟩ := r3
        have a0 := After.keep r0
        have a1 := After.keep r1
        have a2 := After.keep r2
        have a3 := After.keep r3
        have a4 := After.keep r4
        have a5 := After.keep r5
        go_wp2
        go_ret
        exact ⟨ret_bool HT.out.symm, ⟨cl, false, A, zs.length, c, zs⟩, (stepN_no HT.out).symm, HR.out, HB.out⟩
      subst hs1
      by_cases hin : inB s2 1 (36000 - cl) = true
      rotate_left
      · have hin' : inB s2 1 (36000 - cl) = false := by simpa using hin
        have HT := Lib.hid (HV.out.trans (show _ = false by simp [hin']))
        clear hin
        go_enter Try.func77, Try.ntmps77
        go_wp2
        obtain ⟨r0, r1, r2, rf⟩ := HR.out.cells
        have r3 := Step.cells HS.out
        simp only [Nat.zero_add] at r0 r1 r2 r3
        obtain ⟨r3, r4, r5⟩ := r3
        have a0 := After.keep r0
        have a1 := After.keep r1
        have a2 := After.keep r2
        have a3 := After.keep r3
        have a4 := After.keep r4
        have a5 := After.keep r5
        refine region_after (by kernel_rfl) (by kernel_rfl) ?_
        repeat (any_goals (first | go_big_quiet_step ((go_at_call 59; exact Calls.after_same (v := .bool false) _ (inside_is _ _ _ _ hin' _)))  | quiet_step ((go_at_call 59; exact Calls.after_same (v := .bool false) _ (inside_is _ _ _ _ hin' _))) | (refine wpQuiet_step (fun K hK => ?_); go_simp; split <;> (refine hK _ ?_; clear hK K))))
        all_goals (refine wpQuiet_nil ?_; intro s)
        replace HR := Lib.hid (HR.out.below s.hb)
        replace HS := Lib.hid (rangeAt_below HS.out s.hb)
        replace HB := Lib.hid (HB.out.trans (s.hb.mono (Nat.le_trans hB HB.out.size)))
        clear r0 r1 r2 r3 r4 r5 rf a0 a1 a2 a3 a4 a5
        generalize s.w' = W at HR HS HB ⊢
        obtain ⟨r0, r1, r2, rf⟩ := HR.out.cells
        have r3 := Step.cells HS.out
        simp only [Nat.zero_add] at r0 r1 r2 r3
        obtain ⟨r3, r4, r5⟩ := r3
        have a0 := After.keep r0
        have a1 := After.keep r1
        have a2 := After.keep r2
        have a3 := After.keep r3
        have a4 := After.keep r4
        have a5 := After.keep r5
        go_wp2
        go_ret
        exact ⟨ret_bool HT.out.symm, ⟨cl, false, A, zs.length, c, zs⟩, (stepN_no HT.out).symm, HR.out, HB.out⟩
      have HT := Lib.hid (HV.out.trans (show _ = true by simp [hin]))
      have hv := inB_iff.1 hin
      have hwr : IntKind.i64.wrap (cl + s2) = cl + s2 := by rw [IntKind.wrap_i64]; omega
      have HE := Lib.hid (show stepV (Race.k ⟨cl, false, A, zs.length, c, zs⟩) ⟨1, 0, s2⟩ = Race.k ⟨cl + s2, false, A, zs.length, c, zs⟩ from by simp [stepV, Race.k])
      go_enter Try.func77, Try.ntmps77
      go_wp2
      obtain ⟨r0, r1, r2, rf⟩ := HR.out.cells
      have r3 := Step.cells HS.out
      simp only [Nat.zero_add] at r0 r1 r2 r3
      obtain ⟨r3, r4, r5⟩ := r3
      have a0 := After.keep r0
      have a1 := After.keep r1
      have a2 := After.keep r2
      have a3 := After.keep r3
      have a4 := After.keep r4
      have a5 := After.keep r5
      refine region_after (by kernel_rfl) (by kernel_rfl) ?_
      repeat (any_goals (first | go_big_quiet_step ((go_at_call 59; exact Calls.after_same (v := .bool true) _ (inside_is _ _ _ _ hin _)))  | quiet_step ((go_at_call 59; exact Calls.after_same (v := .bool true) _ (inside_is _ _ _ _ hin _))) | (refine wpQuiet_step (fun K hK => ?_); go_simp; split <;> (refine hK _ ?_; clear hK K))))
      all_goals (refine wpQuiet_nil ?_; intro s)
      replace HR := Lib.hid (HR.out.below s.hb)
      replace HS := Lib.hid (rangeAt_below HS.out s.hb)
      replace HB := Lib.hid (HB.out.trans (s.hb.mono (Nat.le_trans hB HB.out.size)))
      clear r0 r1 r2 r3 r4 r5 rf a0 a1 a2 a3 a4 a5
      generalize s.w' = W at HR HS HB ⊢
      obtain ⟨r0, r1, r2, rf⟩ := HR.out.cells
      have r3 := Step.cells HS.out
      simp only [Nat.zero_add] at r0 r1 r2 r3
      obtain ⟨r3, r4, r5⟩ := r3
      have a0 := After.keep r0
      have a1 := After.keep r1
      have a2 := After.keep r2
      have a3 := After.keep r3
      have a4 := After.keep r4
      have a5 := After.keep r5
      go_wp2
      go_region_law (fail)
      all_goals
        go_wp2
        go_ret
        refine ⟨ret_bool HT.out.symm, ⟨cl + s2, false, A, zs.length, c, zs⟩, HE.out.symm.trans (stepN_yes HT.out).symm, ?_, ?_⟩
        · first
            | exact HR.out.put 0 _ rfl rfl rfl
            | exact (HR.out.below (Below.refl _ _).drew).put 0 _ rfl rfl rfl
        · first
            | exact HB.out.setCell (by exact hBg) _
            | exact HB.out.drew.setCell (by exact hBg) _
set_option maxRecDepth 100000 in
set_option maxHeartbeats 8000000 in
theorem stepRaceE (B g : Nat) (p : Race) (s : Step) (w : World) (h : RaceAt B w g p) (hB : B ≤ w.heap.size) (hBg : B ≤ g) (hg : GoodRace p.k) (hk1 : s.kind ≠ 1) (hk6 : s.kind ≠ 6) :
    Calls Try.prog 77 #[.pointer (some ⟨g, 0, none⟩), s.val] w fun e w' => e = .returned (.bool (stepB p.k s)) ∧ ∃ p' : Race, p'.k = stepN p.k s ∧ RaceAt B w' g p' ∧ Below B w w' := by
  obtain ⟨s0, s1, s2⟩ := s
  have hn := h.len
  have hpu := good_punches hg
  obtain ⟨cl, cd, A, n, c, zs⟩ := p
  simp only at hn
  subst hn
  have hl8 : 1 ≤ zs.length ∧ zs.length ≤ 8 := by
    have := inB_iff.1 hg.2.1
    simp only [Race.k, List.length_map] at this
    omega
  have hcl : 0 ≤ cl ∧ cl ≤ 36000 := inB_iff.1 hg.1
  have HPU := Lib.hid (show ∀ z ∈ zs, z.card.k.punches.length ≤ 12 from fun z hz => hpu z.k (List.mem_map.2 ⟨z, hz, rfl⟩))
  have hW : Below w.heap.size w (w.alloc (.cells #[.int .i64 s0, .int .i64 s1, .int .i64 s2] 53)) := below_alloc (Below.refl _ _) _
  have HR := Lib.hid (h.below hW)
  have HS := Lib.hid (Step.rangeNew w ⟨s0, s1, s2⟩ 53)
  have HB := Lib.hid (hW.mono hB)
  obtain ⟨hcm1, hcm2⟩ : zs.length ≤ c ∧ c ≤ 9223372036854775807 := by
    obtain ⟨_, _, h1, h2, h3⟩ := h.2.1.1.parts
    simp only [Value.slice.injEq, List.length_map] at h1 h2
    omega
  clear hg hpu
  show Calls Try.prog 77 #[.pointer (some ⟨g, 0, none⟩), .agg #[.int .i64 s0, .int .i64 s1, .int .i64 s2]] w _
  have h1 : s0 ≠ 1 := hk1
  have h6 : s0 ≠ 6 := hk6
  try clear hk1 hk6
  have n1 : (s0 == 1) = false := by simpa using h1
  · have n6 : (s0 == 6) = false := by simpa using h6
    have HV := Lib.hid (show stepB (Race.k ⟨cl, cd, A, zs.length, c, zs⟩) ⟨s0, s1, s2⟩ = entB (Race.k ⟨cl, cd, A, zs.length, c, zs⟩) ⟨s0, s1, s2⟩ from by simp [stepB, h1, h6])
    have HN := Lib.hid (show stepN (Race.k ⟨cl, cd, A, zs.length, c, zs⟩) ⟨s0, s1, s2⟩ = entN (Race.k ⟨cl, cd, A, zs.length, c, zs⟩) ⟨s0, s1, s2⟩ from by simp [stepN, entN, HV.out, stepV, h1, h6])
    have HSE := Lib.hid (stepEntrant_any B g ⟨cl, cd, A, zs.length, c, zs⟩ ⟨s0, s1, s2⟩ _ HR.out (Nat.le_trans hB HB.out.size) hl8.2 HPU.out)
    rw [HV.out, HN.out]
    generalize entB (Race.k ⟨cl, cd, A, zs.length, c, zs⟩) ⟨s0, s1, s2⟩ = bb at HSE ⊢
    generalize entN (Race.k ⟨cl, cd, A, zs.length, c, zs⟩) ⟨s0, s1, s2⟩ = kk at HSE ⊢
    have r3 := Step.cells HS.out
    simp only [Nat.zero_add] at r3
    obtain ⟨r3, r4, r5⟩ := r3
    clear h h1 h6 hW HV HN
    go_enter Try.func77, Try.ntmps77
    go_wp2_with (go_at_call 101; refine HSE.out.mono ?_; rintro e w1 ⟨rfl, p', hp', hR', hb'⟩)
    go_ret
    exact ⟨rfl, p', hp', hR', HB.out.trans hb'⟩
set_option maxRecDepth 100000 in
set_option maxHeartbeats 8000000 in
theorem stepRace6 (B g : Nat) (p : Race) (s : Step) (w : World) (h : RaceAt B w g p) (hB : B ≤ w.heap.size) (hBg : B ≤ g) (hg : GoodRace p.k) (hk : s.kind = 6) :
    Calls Try.prog 77 #[.pointer (some ⟨g, 0, none⟩), s.val] w fun e w' => e = .returned (.bool (stepB p.k s)) ∧ ∃ p' : Race, p'.k = stepN p.k s ∧ RaceAt B w' g p' ∧ Below B w w' := by
  obtain ⟨s0, s1, s2⟩ := s
  have hn := h.len
  have hpu := good_punches hg
  obtain ⟨cl, cd, A, n, c, zs⟩ := p
  simp only at hn
  subst hn
  have hl8 : 1 ≤ zs.length ∧ zs.length ≤ 8 := by
    have := inB_iff.1 hg.2.1
    simp only [Race.k, List.length_map] at this
    omega
  have hcl : 0 ≤ cl ∧ cl ≤ 36000 := inB_iff.1 hg.1
  have HPU := Lib.hid (show ∀ z ∈ zs, z.card.k.punches.length ≤ 12 from fun z hz => hpu z.k (List.mem_map.2 ⟨z, hz, rfl⟩))
  have hW : Below w.heap.size w (w.alloc (.cells #[.int .i64 s0, .int .i64 s1, .int .i64 s2] 53)) := below_alloc (Below.refl _ _) _
  have HR := Lib.hid (h.below hW)
  have HS := Lib.hid (Step.rangeNew w ⟨s0, s1, s2⟩ 53)
  have HB := Lib.hid (hW.mono hB)
  obtain ⟨hcm1, hcm2⟩ : zs.length ≤ c ∧ c ≤ 9223372036854775807 := by
    obtain ⟨_, _, h1, h2, h3⟩ := h.2.1.1.parts
    simp only [Value.slice.injEq, List.length_map] at h1 h2
    omega
  clear hg hpu
  show Calls Try.prog 77 #[.pointer (some ⟨g, 0, none⟩), .agg #[.int .i64 s0, .int .i64 s1, .int .i64 s2]] w _
  obtain rfl : s0 = 6 := hk
  try clear hk
  have HV := Lib.hid (show stepB (Race.k ⟨cl, cd, A, zs.length, c, zs⟩) ⟨6, s1, s2⟩ = (!cd && s1 == 0 && s2 == 0 && noneOut (zs.map Ent.k)) from by simp [stepB, Race.k])
  clear h hW
  cases cd with
  | true =>
    have HT := Lib.hid (HV.out.trans (show (!true && s1 == 0 && s2 == 0 && noneOut (zs.map Ent.k)) = false by simp))
    go_enter Try.func77, Try.ntmps77
    obtain ⟨r0, r1, r2, rf⟩ := HR.out.cells
    have r3 := Step.cells HS.out
    simp only [Nat.zero_add] at r0 r1 r2 r3
    obtain ⟨r3, r4, r5⟩ := r3
    have a0 := After.keep r0
    have a1 := After.keep r1
    have a2 := After.keep r2
    have a3 := After.keep r3
    have a4 := After.keep r4
    have a5 := After.keep r5
    go_wp2
    go_ret
    exact ⟨ret_bool HT.out.symm, ⟨cl, true, A, zs.length, c, zs⟩, (stepN_no HT.out).symm, HR.out, HB.out⟩
  | false =>
    by_cases hs1 : s1 = 0
    rotate_left
    · have HT := Lib.hid (HV.out.trans (show _ = false by simp [hs1]))
      have n1 : (s1 != 0) = true := by simpa using hs1
      clear hs1
      go_enter Try.func77, Try.ntmps77
      obtain ⟨r0, r1, r2, rf⟩ := HR.out.cells
      have r3 := Step.cells HS.out
      simp only [Nat.zero_add] at r0 r1 r2 r3
      obtain ⟨r3, r4, r5⟩ := r3
      have a0 := After.keep r0
      have a1 := After.keep r1
      have a2 := After.keep r2
      have a3 := After.keep r3
      have a4 := After.keep r4
      have a5 := After.keep r5
      go_wp2
      go_ret
      exact ⟨ret_bool HT.out.symm, ⟨cl, false, A, zs.length, c, zs⟩, (stepN_no HT.out).symm, HR.out, HB.out⟩
    subst hs1
    by_cases hs2 : s2 = 0
    rotate_left
    · have HT := Lib.hid (HV.out.trans (show _ = false by simp [hs2]))
      have n1 : (s2 != 0) = true := by simpa using hs2
      clear hs2
      go_enter Try.func77, Try.ntmps77
      obtain ⟨r0, r1, r2, rf⟩ := HR.out.cells
      have r3 := Step.cells HS.out
      simp only [Nat.zero_add] at r0 r1 r2 r3
      obtain ⟨r3, r4, r5⟩ := r3
      have a0 := After.keep r0
      have a1 := After.keep r1
      have a2 := After.keep r2
      have a3 := After.keep r3
      have a4 := After.keep r4
      have a5 := After.keep r5
      go_wp2
      go_ret
      exact ⟨ret_bool HT.out.symm, ⟨cl, false, A, zs.length, c, zs⟩, (stepN_no HT.out).symm, HR.out, HB.out⟩
    subst hs2
    have HO1 := Lib.hid (inState_any ⟨cl, false, A, zs.length, c, zs⟩ 1 _ (RaceR.s HR.out.2.1) (by simp only; omega))
    by_cases hno : noneOut (zs.map Ent.k) = true
    rotate_left
    · have hno' : noneOut (zs.map Ent.k) = false := by simpa using hno
      have HT := Lib.hid (HV.out.trans (show _ = false by simp [hno']))
      have hpos := outL_some hno'
      have hle := outL_len 1 (zs.map Ent.k)
      generalize outL 1 (zs.map Ent.k) = l1 at HO1 hpos hle
      clear hno
      go_enter Try.func77, Try.ntmps77
      obtain ⟨r0, r1, r2, rf⟩ := HR.out.cells
      have r3 := Step.cells HS.out
      simp only [Nat.zero_add] at r0 r1 r2 r3
      obtain ⟨r3, r4, r5⟩ := r3
      have a0 := After.keep r0
      have a1 := After.keep r1
      have a2 := After.keep r2
      have a3 := After.keep r3
      have a4 := After.keep r4
      have a5 := After.keep r5
      go_wp2_with (go_at_call 69; refine HO1.out.mono ?_; rintro e w1 ⟨rr, rfl, hrow, hb1⟩; obtain ⟨A2, c2, rfl, -, -⟩ := hrow.parts; simp only [List.length_map])
      go_ret
      exact ⟨ret_bool HT.out.symm, ⟨cl, false, A, zs.length, c, zs⟩, (stepN_no HT.out).symm, HR.out.below hb1, HB.out.trans (hb1.mono (Nat.le_trans hB HB.out.size))⟩
    have HT := Lib.hid (HV.out.trans (show _ = true by simp [hno]))
    rw [outL_none hno] at HO1
    have HE := Lib.hid (show stepV (Race.k ⟨cl, false, A, zs.length, c, zs⟩) ⟨6, 0, 0⟩ = ⟨cl, true, closeJ (zs.map Ent.k) (outL 0 (zs.map Ent.k))⟩ from by simp [stepV, Race.k, closeJ_all])
    obtain ⟨q, rfl, -, hBq, hqw, -, hqg⟩ := HR.out.form (by omega)
    have HIX := Lib.hid (show ∀ j (h : j < (outL 0 (zs.map Ent.k)).length), ∃ i : Nat, i < zs.length ∧ (outL 0 (zs.map Ent.k))[j] = (i : Int) from fun j hj => by
      obtain ⟨i, hi, e, _⟩ := mem_outL.1 (List.getElem_mem hj)
      exact ⟨i, by simpa using hi, e⟩)
    have hle := outL_len 0 (zs.map Ent.k)
    simp only [List.length_map] at hle
    clear hno HPU
    go_enter Try.func77, Try.ntmps77
    obtain ⟨r0, r1, r2, rf⟩ := HR.out.cells
    have r3 := Step.cells HS.out
    simp only [Nat.zero_add] at r0 r1 r2 r3
    obtain ⟨r3, r4, r5⟩ := r3
    have a0 := After.keep r0
    have a1 := After.keep r1
    have a2 := After.keep r2
    have a3 := After.keep r3
    have a4 := After.keep r4
    have a5 := After.keep r5
    go_wp2_with fail
    refine HO1.out.mono ?_
    rintro e w1 ⟨rr, rfl, hrow, hb1⟩
    obtain ⟨A2, c2, rfl, -, -⟩ := hrow.parts
    simp only [List.map_nil, List.length_nil]
    replace HR := Lib.hid (HR.out.below hb1)
    replace HB := Lib.hid (HB.out.trans (hb1.mono (Nat.le_trans hB HB.out.size)))
    clear hrow HO1 hb1 r0 r1 r2 rf a0 a1 a2 a3 a4 a5
    obtain ⟨r0, r1, r2, rf⟩ := HR.out.cells
    simp only at r0 r1 r2
    have HRC := Lib.hid (show RaceAt B (w1.setCell ⟨g, 1, none⟩ (.bool true)) g ⟨cl, true, some ⟨q, 0, none⟩, zs.length, c, zs⟩ from HR.out.put 1 _ rfl rfl rfl)
    have HBC := Lib.hid (HB.out.setCell (p := ⟨g, 1, none⟩) (by exact hBg) (.bool true))
    go_wp2_with fail
    refine (inState_any ⟨cl, true, some ⟨q, 0, none⟩, zs.length, c, zs⟩ 0 _ (RaceR.s HRC.out.2.1) (by simp only; omega)).mono ?_
    rintro e w2 ⟨rr2, rfl, hrow2, hb2⟩
    have hqb : q < (w1.setCell ⟨g, 1, none⟩ (.bool true)).heap.size := (Go.Proofs.Ytfmgnbkneccekaa.Row.lt HRC.out.2.1.1 q rfl).2
    have HR2 := Lib.hid (HRC.out.below hb2)
    have HB2 := Lib.hid (HBC.out.trans (hb2.mono (Nat.le_trans hB HBC.out.size)))
    clear HR HB HRC HBC r0 r1 r2 rf r3 r4 r5 hb2
    simp only at hrow2
    generalize outL 0 (zs.map Ent.k) = idx at hrow2 HIX hle HE
    obtain ⟨A2, c2, rfl, hc2, hm2⟩ := hrow2.parts
    simp only [List.length_map] at hrow2 hc2 ⊢
    have HRW := Lib.hid hrow2
    have HZ0 := Lib.hid (show zs.map Ent.k = closeJ (zs.map Ent.k) (idx.take 0) by simp [closeJ_nil])
    obtain ⟨ks, hks⟩ : ∃ ks, ks = zs.map Ent.k := ⟨_, rfl⟩
    generalize hbb : (w1.setCell ⟨g, 1, none⟩ (.bool true)).heap.size = bb at hqb HRW
    clear hbb hrow2
    go_wp2_with fail
    go_loopw [72] (fun iv wr => ∃ (j : Nat) (zz : List Ent), j ≤ idx.length ∧ iv = .int .i64 j ∧ Hid (zz.map Ent.k = closeJ (zs.map Ent.k) (idx.take j)) ∧ Hid (zz.length = zs.length) ∧ Hid (RaceAt B wr g ⟨cl, true, some ⟨q, 0, none⟩, zs.length, c, zz⟩) ∧ Hid (Row bb 3 1 wr (.slice A2 idx.length c2) (idx.map ints)) ∧ Hid (Below B w wr))
      (fun iv _ => idx.length - (intOf iv).toNat)
    case atStart => exact ⟨0, zs, by omega, rfl, HZ0.out, rfl, HR2.out, HRW.out, HB2.out⟩
    case round =>
      clear HR2 HB2 HRW HZ0
      obtain ⟨j, zz, hj, rfl, HZ, HZL, HR, HRW, HB⟩ := hrel
      by_cases hlt : j < idx.length
      · have hlti : (j : Int) < (idx.length : Int) := by omega
        obtain ⟨i, hi, hji⟩ := HIX.out j hlt
        obtain ⟨g2, cap, he, hbg2, hgl, hcap⟩ := HRW.out.form (by simpa using (show 0 < idx.length by omega))
        simp only [Value.slice.injEq, List.length_map] at he hcap
        obtain ⟨rfl, _, rfl⟩ := he
        have hcx := (HRW.out.cell (k := j) (j := 0) (by simpa using hlt) (by omega)).trans (show ((idx.map ints)[j]'(by simpa using hlt))[0]? = some (.int .i64 i) from by simp [ints, hji])
        simp only [Nat.mul_one, Nat.add_zero] at hcx
        have hiz : i < zz.length := by rw [HZL.out]; exact hi
        obtain ⟨r0, r1, r2, rf⟩ := HR.out.cells
        simp only at r0 r1 r2
        obtain ⟨e0, e1, e2, e3, e4, ef⟩ := EntR.cells HR.out.2.1 hiz
        have hr1 := HR.out.2.1.1.stored (k := i) (j := 0) (by simpa using hiz) (by omega) (.int .i64 4)
        have HR1 := Lib.hid (show RaceAt B (wr.setCell ⟨q, i * 5, none⟩ (.int .i64 4)) g ⟨cl, true, some ⟨q, 0, none⟩, zs.length, c, zz.set i ⟨4, zz[i].card⟩⟩ from by
          refine HR.out.turn hiz _ rfl rfl hr1.2 ?_
          have h1 := hr1.1
          simp only [List.getElem_map] at h1
          simpa [Ent.lst] using h1)
        have HZ1 := Lib.hid (show (zz.set i ⟨4, zz[i].card⟩).map Ent.k = closeJ (zs.map Ent.k) (idx.take (j + 1)) from by
          rw [List.take_succ_eq_append_getElem hlt, hji]
          exact closeJ_step HZ.out hiz)
        have HRW1 := Lib.hid (show Row bb 3 1 (wr.setCell ⟨q, i * 5, none⟩ (.int .i64 4)) (.slice (some ⟨g2, 0, none⟩) idx.length c2) (idx.map ints) from HRW.out.kept hr1.2 (.inr (by simp [Value.ownBlock]; omega)))
        have HB1 := Lib.hid (HB.out.setCell (p := ⟨q, i * 5, none⟩) (by exact hBq) (.int .i64 4))
        generalize zz[i].state = st0 at e0
        clear hji e1 e2 e3 e4 hr1
        go_wp2_with fail
        go_roundw
        case rel => exact ⟨j + 1, zz.set i ⟨4, zz[i].card⟩, by omega, by go_num, HZ1.out, by show _ = _; simpa using HZL.out, HR1.out, HRW1.out, HB1.out⟩
        case measure => simp [intOf]; omega
      · have hlti : ¬ (j : Int) < (idx.length : Int) := by omega
        obtain rfl : j = idx.length := by omega
        rw [List.take_length] at HZ
        go_wp2_with fail
        go_ret
        refine ⟨ret_bool HT.out.symm, ⟨cl, true, some ⟨q, 0, none⟩, zs.length, c, zz⟩, ?_, HR.out, HB.out⟩
        rw [stepN_yes HT.out, HE.out]
        simp only [Race.k, HZ.out]
theorem stepRace_any (B g : Nat) (p : Race) (s : Step) (w : World) (h : RaceAt B w g p) (hB : B ≤ w.heap.size) (hBg : B ≤ g) (hg : GoodRace p.k) :
    Calls Try.prog 77 #[.pointer (some ⟨g, 0, none⟩), s.val] w fun e w' => e = .returned (.bool (stepB p.k s)) ∧ ∃ p' : Race, p'.k = stepN p.k s ∧ RaceAt B w' g p' ∧ Below B w w' := by
  by_cases h1 : s.kind = 1
  · exact stepRace1 B g p s w h hB hBg hg h1
  · by_cases h6 : s.kind = 6
    · exact stepRace6 B g p s w h hB hBg hg h6
    · exact stepRaceE B g p s w h hB hBg hg h1 h6
end Go.Proofs.Ytfmgnbkneccekaa
