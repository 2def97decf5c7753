/- A step of an entrant, the program's. No condition. -/
import Derived.Test.YtfmgnbkneccekaaStpA
namespace Go.Proofs.Ytfmgnbkneccekaa
open Go Go.RowKit

set_option maxRecDepth 100000 in
set_option maxHeartbeats 8000000 in
theorem stepEntrant_any (B g : Nat) (p : Race) (s : Step) (w : World) (h : RaceAt B w g p) (hB : B ≤ w.heap.size) (hl : p.zs.length ≤ 8) (hp : ∀ z ∈ p.zs, z.card.k.punches.length ≤ 12) :
    Calls Try.prog 101 #[.pointer (some ⟨g, 0, none⟩), s.val] w fun e w' => e = .returned (.bool (entB p.k s)) ∧ ∃ p' : Race, p'.k = entN p.k s ∧ RaceAt B w' g p' ∧ Below B w w' := by
  obtain ⟨s0, s1, s2⟩ := s
  have hn := h.len
  obtain ⟨cl, cd, A, n, c, zs⟩ := p
  simp only at hn hl hp
  subst hn
  have hW : Below w.heap.size w (w.alloc (.cells #[.int .i64 s0, .int .i64 s1, .int .i64 s2] 53)) := below_alloc (Below.refl _ _) _
  have HR := Lib.hid (h.below hW)
  have HS := Lib.hid (Step.rangeNew w ⟨s0, s1, s2⟩ 53)
  have HB := Lib.hid (hW.mono hB)
  obtain ⟨hcm1, hcm2⟩ : zs.length ≤ c ∧ c ≤ 9223372036854775807 := by
    obtain ⟨_, _, h1, h2, h3⟩ := h.2.1.1.parts
    simp only [Value.slice.injEq, List.length_map] at h1 h2
    omega
  show Calls Try.prog 101 #[.pointer (some ⟨g, 0, none⟩), .agg #[.int .i64 s0, .int .i64 s1, .int .i64 s2]] w _
  by_cases hin : inB s1 0 ((zs.length : Int) - 1) = true
  rotate_left
  · have hin' : inB s1 0 ((zs.length : Int) - 1) = false := by simpa using hin
    have HV : entB (Race.k ⟨cl, cd, A, zs.length, c, zs⟩) ⟨s0, s1, s2⟩ = false := entB_out hin'
    have HT := Lib.hid HV
    clear h hin hp hW HV
    go_enter Try.func101, Try.ntmps101
    go_wp2
    obtain ⟨r0, r1, r2, rf⟩ := HR.out.cells
    have r3 := Step.cells HS.out
    simp only [Nat.zero_add] at r0 r1 r2 r3
    obtain ⟨r3, r4, r5⟩ := r3
    have a0 := After.keep r0
    have a1 := After.keep r1
    have a2 := After.keep r2
    have a3 := After.keep r3
    have a4 := After.keep r4
    have a5 := After.keep r5
    refine region_after (by kernel_rfl) (by kernel_rfl) ?_
    repeat (any_goals (first | go_big_quiet_step ((go_at_call 59; exact Calls.after_same (v := .bool false) _ (inside_is _ _ _ _ hin' _)))  | quiet_step ((go_at_call 59; exact Calls.after_same (v := .bool false) _ (inside_is _ _ _ _ hin' _)))))
    refine wpQuiet_nil ?_
    intro s
    replace HR := Lib.hid (HR.out.below s.hb)
    replace HS := Lib.hid (rangeAt_below HS.out s.hb)
    replace HB := Lib.hid (HB.out.trans (s.hb.mono (Nat.le_trans hB HB.out.size)))
    clear r0 r1 r2 r3 r4 r5 rf a0 a1 a2 a3 a4 a5
    generalize s.w' = W at HR HS HB ⊢
    obtain ⟨r0, r1, r2, rf⟩ := HR.out.cells
    have r3 := Step.cells HS.out
    simp only [Nat.zero_add] at r0 r1 r2 r3
    obtain ⟨r3, r4, r5⟩ := r3
    have a0 := After.keep r0
    have a1 := After.keep r1
    have a2 := After.keep r2
    have a3 := After.keep r3
    have a4 := After.keep r4
    have a5 := After.keep r5
    go_wp2
    go_ret
    exact ⟨ret_bool HT.out.symm, ⟨cl, cd, A, zs.length, c, zs⟩, (entN_no HT.out).symm, HR.out, HB.out⟩
  · obtain ⟨i, rfl⟩ : ∃ i : Nat, s1 = i := ⟨s1.toNat, by have := inB_iff.1 hin; omega⟩
    have hi : i < zs.length := by have := inB_iff.1 hin; omega
    obtain ⟨q, rfl, -, hBq, hqw, -, hqg⟩ := h.form (by omega)
    have HV := Lib.hid (entB_at (p := ⟨cl, cd, some ⟨q, 0, none⟩, zs.length, c, zs⟩) (s := ⟨s0, (i : Int), s2⟩) hi rfl)
    have HE := Lib.hid (fun z' => entV_at (cl := cl) (cd := cd) (A := some ⟨q, 0, none⟩) (n := zs.length) (c := c) (s := ⟨s0, (i : Int), s2⟩) (z' := z') hi rfl)
    have hpi := hp zs[i] (List.getElem_mem hi)
    obtain ⟨z, hz⟩ : ∃ z, zs[i] = z := ⟨_, rfl⟩
    simp only [hz] at HV HE hpi
    have HZ := Lib.hid hz
    clear h hp hW hz
    obtain ⟨st, ⟨⟨k0, k1, k2, sp⟩, D, m, d⟩⟩ := z
    simp only at hpi
    go_enter Try.func101, Try.ntmps101
    go_wp2
    obtain ⟨r0, r1, r2, rf⟩ := HR.out.cells
    have r3 := Step.cells HS.out
    simp only [Nat.zero_add] at r0 r1 r2 r3
    obtain ⟨r3, r4, r5⟩ := r3
    have a0 := After.keep r0
    have a1 := After.keep r1
    have a2 := After.keep r2
    have a3 := After.keep r3
    have a4 := After.keep r4
    have a5 := After.keep r5
    refine region_after (by kernel_rfl) (by kernel_rfl) ?_
    repeat (any_goals (first | go_big_quiet_step ((go_at_call 59; exact Calls.after_same (v := .bool true) _ (inside_is _ _ _ _ hin _)))  | quiet_step ((go_at_call 59; exact Calls.after_same (v := .bool true) _ (inside_is _ _ _ _ hin _)))))
    refine wpQuiet_nil ?_
    intro s
    replace HR := Lib.hid (HR.out.below s.hb)
    replace HS := Lib.hid (rangeAt_below HS.out s.hb)
    replace HB := Lib.hid (HB.out.trans (s.hb.mono (Nat.le_trans hB HB.out.size)))
    clear r0 r1 r2 r3 r4 r5 rf a0 a1 a2 a3 a4 a5
    generalize s.w' = W at HR HS HB ⊢
    obtain ⟨r0, r1, r2, rf⟩ := HR.out.cells
    have r3 := Step.cells HS.out
    simp only [Nat.zero_add] at r0 r1 r2 r3
    obtain ⟨r3, r4, r5⟩ := r3
    have a0 := After.keep r0
    have a1 := After.keep r1
    have a2 := After.keep r2
    have a3 := After.keep r3
    have a4 := After.keep r4
    have a5 := After.keep r5
    go_wp2
    refine region_after (by kernel_rfl) (by kernel_rfl) ?_
    repeat (any_goals (first | go_big_quiet_step (fail)  | quiet_step (fail)))
    refine wpQuiet_nil ?_
    intro s
    replace HR := Lib.hid (HR.out.below s.hb)
    replace HS := Lib.hid (rangeAt_below HS.out s.hb)
    replace HB := Lib.hid (HB.out.trans (s.hb.mono (Nat.le_trans hB HB.out.size)))
    clear r0 r1 r2 r3 r4 r5 rf a0 a1 a2 a3 a4 a5
    generalize s.w' = W at HR HS HB ⊢
    obtain ⟨r0, r1, r2, rf⟩ := HR.out.cells
    have r3 := Step.cells HS.out
    simp only [Nat.zero_add] at r0 r1 r2 r3
    obtain ⟨r3, r4, r5⟩ := r3
    have a0 := After.keep r0
    have a1 := After.keep r1
    have a2 := After.keep r2
    have a3 := After.keep r3
    have a4 := After.keep r4
    have a5 := After.keep r5
    have HZW := Lib.hid (HR.out.2.1.2.1 zs[i] (List.getElem_mem hi))
    have ec := EntR.cells' HR.out.2.1 hi HZ.out
    have HRW := Lib.hid HR.out.2.1.1
    obtain ⟨e0, e1, e2, e3, e4, ef⟩ := ec
    simp only at e0 e1 e2 e3 e4
    rw [HZ.out] at HZW
    have HGI := Lib.hid (show (zs.map Ent.lst)[i]'(by simpa using hi) = Ent.lst ⟨st, ⟨⟨k0, k1, k2, sp⟩, D, m, d⟩⟩ by simp [HZ.out])
    by_cases h2 : s0 = 2
    · subst h2
      have HT := Lib.hid (HV.out.trans (show entStepB (Ent.k ⟨st, ⟨⟨k0, k1, k2, sp⟩, D, m, d⟩⟩) ⟨2, (i : Int), s2⟩ = (st == 0 && s2 == 0) from by simp [entStepB, Ent.k]))
      by_cases hst : st = 0
      rotate_left
      · have n1 : (st != 0) = true := by simpa using hst
        have HT := Lib.hid (HT.out.trans (show (st == 0 && s2 == 0) = false by simp [hst]))
        clear hst
        go_wp2
        go_ret
        exact ⟨ret_bool HT.out.symm, ⟨cl, cd, some ⟨q, 0, none⟩, zs.length, c, zs⟩, (entN_no HT.out).symm, HR.out, HB.out⟩
      subst hst
      by_cases hv : s2 = 0
      rotate_left
      · have n1 : (s2 != 0) = true := by simpa using hv
        have HT := Lib.hid (HT.out.trans (show ((0 : Int) == 0 && s2 == 0) = false by simp [hv]))
        clear hv
        go_wp2
        go_ret
        exact ⟨ret_bool HT.out.symm, ⟨cl, cd, some ⟨q, 0, none⟩, zs.length, c, zs⟩, (entN_no HT.out).symm, HR.out, HB.out⟩
      subst hv
      have HT := Lib.hid (HT.out.trans (show ((0 : Int) == 0 && (0 : Int) == 0) = true by simp))
      have hqW : q < W.heap.size := (HRW.out.lt q rfl).2
      have hwW : w.heap.size ≠ q := by omega
      have HKEEP := Lib.hid (show ∀ w', KeptOff (fun k => k = q) W w' → w'.cell? ⟨g, 0, none⟩ = some (.int .i64 cl) ∧ w'.cell? ⟨w.heap.size, 1, none⟩ = some (.int .i64 i) from fun w' hk => ⟨hk.cell r0 (fun e => hqg e.symm), hk.cell r4 hwW⟩)
      have hwr : IntKind.i64.wrap ((i : Int) + 1) = (i : Int) + 1 := by rw [IntKind.wrap_i64]; omega
      go_wp2_with fail
      go_region_held3 (fun w' => w'.cell? ⟨g, 0, none⟩ = some (.int .i64 cl) ∧ w'.cell? ⟨w.heap.size, 1, none⟩ = some (.int .i64 i))
        (exact HKEEP.out _ (by repeat (first | (with_reducible exact KeptOff.refl _ _) | (with_reducible refine KeptOff.drew ?_) | (with_reducible refine KeptOff.alloc ?_ _) | (with_reducible refine KeptOff.setCell1 ?_ _))))
        (fail)
      all_goals
        have hr1 := HRW.out.stored (k := i) (j := 0) (by simpa using hi) (by omega) (.int .i64 1)
        have hr2 := hr1.1.stored (k := i) (j := 1) (by simpa using hi) (by omega) (.int .i64 ((i : Int) + 1))
        have hr3 := hr2.1.stored (k := i) (j := 2) (by simpa using hi) (by omega) (.int .i64 cl)
        have hr4 := hr3.1.stored (k := i) (j := 3) (by simpa using hi) (by omega) (.int .i64 (-1))
        have hr5 := hr4.1.stored (k := i) (j := 4) (by simpa using hi) (by omega) (.slice (some ⟨W.heap.size, 0, none⟩) 0 0)
        have HR5 := Lib.hid hr5.1
        have HK5 := Lib.hid ((KeptOff.of_grown (S := fun k => k = q) (grown_trans (grown_trans (grown_trans (grown_trans hr1.2 hr2.2) hr3.2) hr4.2) hr5.2) (fun k e => (Option.some.inj e).symm)).alloc (.cells #[] 89)).drew
        clear hr1 hr2 hr3 hr4 hr5
        go_wp2
        go_ret
        refine ⟨ret_bool HT.out.symm, ⟨cl, cd, some ⟨q, 0, none⟩, zs.length, c, zs.set i ⟨1, ⟨⟨(i : Int) + 1, cl, -1, []⟩, some ⟨W.heap.size, 0, none⟩, 0, 0⟩⟩⟩, (HE.out _ rfl).trans (entN_yes HT.out).symm, ?_, ?_⟩
        · refine HR.out.exch hi _ ?_ (HK5.out.mono fun k hk => .inl hk) (.inr fun k hk => by simp [Value.ownBlock] at hk; omega) ?_
          · refine Row.drew ?_
            have := Row.lit_nil (((((W.setCell ⟨q, i * 5, none⟩ (.int .i64 1)).setCell ⟨q, i * 5 + 1, none⟩ (.int .i64 ((i : Int) + 1))).setCell ⟨q, i * 5 + 1 + 1, none⟩ (.int .i64 cl)).setCell ⟨q, i * 5 + 1 + 2, none⟩ (.int .i64 (-1))).setCell ⟨q, i * 5 + 1 + 3, none⟩ (.slice (some ⟨W.heap.size, 0, none⟩) 0 0)) 89 2 (base := B) (by simpa using Nat.le_trans hB HB.out.size)
            simpa using this
          · have := (HR5.out.alloc (.cells #[] 89)).drew
            simpa [HGI.out, Ent.lst] using this
        · exact below_keptOff HB.out HK5.out (fun k hk => by rw [hk]; exact hBq) (Nat.le_trans hB HB.out.size)
    have n2 : (s0 == 2) = false := by simpa using h2
    by_cases hst : st = 1
    rotate_left
    · have n1 : (st != 1) = true := by simpa using hst
      have HT := Lib.hid (HV.out.trans (show entStepB (Ent.k ⟨st, ⟨⟨k0, k1, k2, sp⟩, D, m, d⟩⟩) ⟨s0, (i : Int), s2⟩ = false from by simp [entStepB, Ent.k, h2, hst]))
      clear hst
      go_wp2
      go_ret
      exact ⟨ret_bool HT.out.symm, ⟨cl, cd, some ⟨q, 0, none⟩, zs.length, c, zs⟩, (entN_no HT.out).symm, HR.out, HB.out⟩
    subst hst
    by_cases h3 : s0 = 3
    · subst h3
      have HT := Lib.hid (HV.out.trans (show entStepB (Ent.k ⟨1, ⟨⟨k0, k1, k2, sp⟩, D, m, d⟩⟩) ⟨3, (i : Int), s2⟩ = (inB s2 31 99 && decide (sp.length < 12)) from by simp only [entStepB, Ent.k]; rfl))
      by_cases hc : inB s2 31 99 = true
      rotate_left
      · have hc' : inB s2 31 99 = false := by simpa using hc
        have HT := Lib.hid (HT.out.trans (show (inB s2 31 99 && decide (sp.length < 12)) = false by simp [hc']))
        clear hc
        go_wp2_with (go_at_call 110; refine (isCode_is _ _ hc' _).mono ?_; rintro e w' ⟨rfl, rfl⟩)
        go_ret
        exact ⟨ret_bool HT.out.symm, ⟨cl, cd, some ⟨q, 0, none⟩, zs.length, c, zs⟩, (entN_no HT.out).symm, HR.out, HB.out⟩
      have hm : m = sp.length := by
        obtain ⟨_, _, h1, _⟩ := HZW.out.1.parts
        simp only [Value.slice.injEq, List.length_map] at h1
        exact h1.2.1
      subst hm
      by_cases hlen : sp.length = 12
      · have HT := Lib.hid (HT.out.trans (show (inB s2 31 99 && decide (sp.length < 12)) = false by simp [hlen]))
        have hlen' : ((sp.length : Int) == 12) = true := by rw [hlen]; rfl
        go_wp2_with (go_at_call 110; refine (isCode_is _ _ hc _).mono ?_; rintro e w' ⟨rfl, rfl⟩)
        go_ret
        exact ⟨ret_bool HT.out.symm, ⟨cl, cd, some ⟨q, 0, none⟩, zs.length, c, zs⟩, (entN_no HT.out).symm, HR.out, HB.out⟩
      have HT := Lib.hid (HT.out.trans (show (inB s2 31 99 && decide (sp.length < 12)) = true by simp [hc]; omega))
      have hlen' : ((sp.length : Int) == 12) = false := by rw [beq_eq_false_iff_ne]; omega
      go_wp2_with (go_at_call 110; refine (isCode_is _ _ hc _).mono ?_; rintro e w' ⟨rfl, rfl⟩)
      have hqW : q < W.heap.size := (HRW.out.lt q rfl).2
      have HRO := Lib.hid ((HZW.out.1.drew).alloc (.cells #[.int .i64 s2, .int .i64 cl] 89))
      have HSR := Lib.hid (Src.lit W.drew 89 (Punch.lst ⟨s2, cl⟩) W.heap.size rfl rfl (Punch.one _))
      have HLL := Lib.hid (show (sp.map Punch.lst).length + 1 ≤ 2147483648 by simp; omega)
      have HBW := Lib.hid (Nat.le_trans hB HB.out.size)
      have hbd : Below W.heap.size W (W.drew.alloc (.cells #[.int .i64 s2, .int .i64 cl] 89)) := (Below.refl _ _).drew.alloc (Nat.le_refl _) _
      have HRW2 := Lib.hid (Row.below HRW.out hbd)
      have HBD := Lib.hid hbd
      clear hbd
      go_region_law (first
        | (refine tyPunch.stepAppendR (by rfl) _ _ (by rfl) B (.slice D sp.length d) _ (by rfl) HRO.out _ 1 1 _ (by rfl) HSR.out HLL.out (by have := HBW.out; simp; omega) ?_; intro o4 w4 hrow4 hg4 hat4; obtain ⟨A4, c4, rfl, hc4, hm4⟩ := hrow4.parts; simp only [List.length_append, List.length_map, List.length_singleton] at hc4 hat4 hrow4 ⊢; have HR4 := Lib.hid (HRW2.out.kept hg4 (.inr (by intro e; rcases HZW.out.2 with h | h; (have e2 : (Value.slice D sp.length d).ownBlock = none := h; rw [e2] at e; exact absurd e (by simp [Value.ownBlock])); exact h e.symm))); have e44 : w4.cell? ⟨q, i * 5 + 4, none⟩ = some (.slice D sp.length d) := (HR4.out.cell (k := i) (j := 4) (by simpa using hi) (by omega)).trans (by rw [HGI.out]; rfl); have ef4 := HR4.out.frozen))
      all_goals
        have hrs := HR4.out.stored (k := i) (j := 4) (by simpa using hi) (by omega) (.slice A4 (sp.length + 1) c4)
        have HROW := Lib.hid hrs.1
        have HG4 := Lib.hid (grown_trans (grown_of (row := (Value.slice D sp.length d).ownBlock) HBD.out) hg4)
        have HIN := Lib.hid (show Row B 89 2 (w4.setCell ⟨q, i * 5 + 4, none⟩ (.slice A4 (sp.length + 1) c4)) (.slice A4 (sp.length + 1) c4) ((sp ++ [(⟨s2, cl⟩ : Punch)]).map Punch.lst) from by
          have h1 := hrow4.kept hrs.2 (by
            rcases hat4 with e | e
            · rw [e]; exact HZW.out.2
            · rw [e]; exact .inr (by intro e2; simp at e2; omega))
          simpa using h1)
        have HK4 := Lib.hid (show KeptOff (fun k => k = q ∨ (Value.slice D sp.length d).ownBlock = some k) W (w4.setCell ⟨q, i * 5 + 4, none⟩ (.slice A4 (sp.length + 1) c4)) from (KeptOff.of_grown HG4.out (fun k e => .inr e)).trans (KeptOff.of_grown hrs.2 (fun k e => .inl (Option.some.inj e).symm)))
        have HAT := Lib.hid (show (Value.slice A4 (sp.length + 1) c4).ownBlock = (Value.slice D sp.length d).ownBlock ∨ ∀ k, (Value.slice A4 (sp.length + 1) c4).ownBlock = some k → W.heap.size ≤ k from hat4.imp id (fun e k hk => by rw [e] at hk; simp at hk; omega))
        clear hrs hrow4 hg4 hat4 e44 ef4 hc4 hm4
        go_wp2
        go_ret
        refine ⟨ret_bool HT.out.symm, ⟨cl, cd, some ⟨q, 0, none⟩, zs.length, c, zs.set i ⟨1, ⟨⟨k0, k1, k2, sp ++ [⟨s2, cl⟩]⟩, A4, sp.length + 1, c4⟩⟩⟩, (HE.out _ rfl).trans (entN_yes HT.out).symm, ?_, ?_⟩
        · refine HR.out.exch hi _ HIN.out (HK4.out.mono fun k hk => hk.imp id (fun h => by rw [HZ.out]; exact h)) (by rw [HZ.out]; exact HAT.out) ?_
          simpa [HGI.out, Ent.lst] using HROW.out
        · exact below_keptOff HB.out HK4.out (fun k hk => by rcases hk with rfl | hk; exact hBq; exact (HZW.out.1.lt k hk).1) HBW.out
    have n3 : (s0 == 3) = false := by simpa using h3
    have n3' : (s0 != 3) = true := by simpa using h3
    by_cases hv : s2 = 0
    rotate_left
    · have n1 : (s2 != 0) = true := by simpa using hv
      have HT := Lib.hid (HV.out.trans (show entStepB (Ent.k ⟨1, ⟨⟨k0, k1, k2, sp⟩, D, m, d⟩⟩) ⟨s0, (i : Int), s2⟩ = false from by simp [entStepB, Ent.k, h2, h3, hv]))
      clear hv
      go_wp2
      go_ret
      exact ⟨ret_bool HT.out.symm, ⟨cl, cd, some ⟨q, 0, none⟩, zs.length, c, zs⟩, (entN_no HT.out).symm, HR.out, HB.out⟩
    subst hv
    by_cases h4 : s0 = 4
    · subst h4
      have HT := Lib.hid (HV.out.trans (show entStepB (Ent.k ⟨1, ⟨⟨k0, k1, k2, sp⟩, D, m, d⟩⟩) ⟨4, (i : Int), 0⟩ = true from by simp [entStepB, Ent.k]))
      go_wp2
      go_ret
      have hr1 := HRW.out.stored (k := i) (j := 0) (by simpa using hi) (by omega) (.int .i64 2)
      have hr2 := hr1.1.stored (k := i) (j := 3) (by simpa using hi) (by omega) (.int .i64 cl)
      refine ⟨ret_bool HT.out.symm, ⟨cl, cd, some ⟨q, 0, none⟩, zs.length, c, zs.set i ⟨2, ⟨⟨k0, k1, cl, sp⟩, D, m, d⟩⟩⟩, (HE.out _ rfl).trans (entN_yes HT.out).symm, ?_, ?_⟩
      · refine HR.out.turn hi _ (by rw [HZ.out]) (by rw [HZ.out]) (grown_trans hr1.2 hr2.2) ?_
        simpa [HGI.out, Ent.lst] using hr2.1
      · exact (HB.out.setCell (by exact hBq) _).setCell (by exact hBq) _
    have n4 : (s0 == 4) = false := by simpa using h4
    by_cases h5 : s0 = 5
    · subst h5
      have HT := Lib.hid (HV.out.trans (show entStepB (Ent.k ⟨1, ⟨⟨k0, k1, k2, sp⟩, D, m, d⟩⟩) ⟨5, (i : Int), 0⟩ = true from by simp [entStepB, Ent.k]))
      go_wp2
      go_ret
      have hr1 := HRW.out.stored (k := i) (j := 0) (by simpa using hi) (by omega) (.int .i64 3)
      refine ⟨ret_bool HT.out.symm, ⟨cl, cd, some ⟨q, 0, none⟩, zs.length, c, zs.set i ⟨3, ⟨⟨k0, k1, k2, sp⟩, D, m, d⟩⟩⟩, (HE.out _ rfl).trans (entN_yes HT.out).symm, ?_, ?_⟩
      · refine HR.out.turn hi _ (by rw [HZ.out]) (by rw [HZ.out]) hr1.2 ?_
        simpa [HGI.out, Ent.lst] using hr1.1
      · exact HB.out.setCell (by exact hBq) _
    have n5 : (s0 == 5) = false := by simpa using h5
    have HT := Lib.hid (HV.out.trans (show entStepB (Ent.k ⟨1, ⟨⟨k0, k1, k2, sp⟩, D, m, d⟩⟩) ⟨s0, (i : Int), 0⟩ = false from by simp [entStepB, h2, h3, h4, h5]))
    go_wp2
    go_ret
    exact ⟨ret_bool HT.out.symm, ⟨cl, cd, some ⟨q, 0, none⟩, zs.length, c, zs⟩, (entN_no HT.out).symm, HR.out, HB.out⟩
end Go.Proofs.Ytfmgnbkneccekaa
