/- The walk of the reference's test on a card. No condition. -/
import Derived.Test.YtojpklpfnmjikaaCdA
namespace Go.Proofs.Ytojpklpfnmjikaa
open Go Go.RowKit

set_option maxRecDepth 100000 in
set_option maxHeartbeats 4000000 in
theorem l12Card_any (p : Card) (w : World) (h : p.In w) :
    Calls Try.prog 115 #[p.val] w fun e w' => e = .returned (.bool (cardOk p.k)) ∧ Below w.heap.size w w' := by
  have hpl := h.len
  obtain ⟨⟨r0, r1, r2, sp⟩, A, n, c⟩ := p
  have hs : Sl (Flat Punch.lst) 2 w (.slice A n c) sp := h
  simp only at hpl
  subst hpl
  obtain ⟨A', c', hv, hc, hm, hk⟩ := hs.open_
  simp only [Value.slice.injEq] at hv
  obtain ⟨rfl, _, rfl⟩ := hv
  have hcn := Card.cellsNew w ⟨⟨r0, r1, r2, sp⟩, A, sp.length, c⟩ 51
  simp only at hcn
  have HW := Lib.hid (show Below w.heap.size w (w.alloc (.cells #[.int .i64 r0, .int .i64 r1, .int .i64 r2, .slice A sp.length c] 51)) from below_alloc (Below.refl _ _) _)
  show Calls Try.prog 115 #[.agg #[.int .i64 r0, .int .i64 r1, .int .i64 r2, .slice A sp.length c]] w fun e w' => e = .returned (.bool (cardOk ⟨r0, r1, r2, sp⟩)) ∧ Below w.heap.size w w'
  obtain ⟨b1, hb1⟩ : ∃ r, inB r0 1 9999 = r := ⟨_, rfl⟩
  obtain ⟨b2, hb2⟩ : ∃ r, inB r1 0 36000 = r := ⟨_, rfl⟩
  have HB2 := Lib.hid (show b2 = true ↔ 0 ≤ r1 ∧ r1 ≤ 36000 by rw [← hb2]; exact inB_iff)
  clear h
  by_cases hf : r2 = -1
  · subst hf
    have b3 : Bool := true
    have hb3 : inB 1 1 1 = true := rfl
    have HCO := Lib.hid (show cardOk ⟨r0, r1, (-1), sp⟩ = (b1 && b2 && true && decide (sp.length ≤ 12) && punchesOk (-1) r1 sp) by simp [cardOk, hb1, hb2])
    clear hs
    go_enter Try.func115, Try.ntmps115
    go_wp2_with (first
      | (go_at_call 103; first | ((with_reducible refine ((l1In_is _ _ _ _ hb1 _)).mono ?_); rintro e w' ⟨rfl, rfl⟩) | ((with_reducible refine ((l1In_is _ _ _ _ hb3 _)).mono ?_); rintro e w' ⟨rfl, rfl⟩))
      | (go_at_call 128; refine (l12Time_is _ _ hb2 _).mono ?_; rintro e w' ⟨rfl, rfl⟩))
    all_goals first
      | (go_ret; exact ⟨ret_bool (by rw [HCO.out]; grind), HW.out⟩)
      | skip
    generalize w.alloc (.cells #[.int .i64 r0, .int .i64 r1, .int .i64 (-1), .slice A sp.length c] 51) = W at hcn HW ⊢
    go_loopw [3, 4] (fun l i wr => ∃ (k : Nat) (last : Int), k ≤ sp.length ∧ i = .int .i64 k ∧ l = .int .i64 last ∧ 0 ≤ last ∧ last ≤ 36000 ∧ Hid (punchesOk (-1) r1 sp = punchesOk (-1) last (sp.drop k)) ∧ Below W.heap.size W wr)
      (fun _ i _ => sp.length - (intOf i).toNat)
    case atStart => exact ⟨0, r1, Nat.zero_le _, rfl, rfl, (HB2.out.1 (by assumption)).1, (HB2.out.1 (by assumption)).2, rfl, Below.refl _ _⟩
    case round =>
      obtain ⟨k, last, hkl, rfl, rfl, hl0, hl1, HS, hb⟩ := hrel
      have hcc := hcn ⟨wr, hb⟩
      simp only at hcc
      by_cases hlt : k < sp.length
      · obtain ⟨b, off, rfl, hat⟩ := flat_at hk (by omega)
        have hr := rangeAt_below (rangeAt_below (hat k hlt) HW.out) hb
        have hd := punchesOk_drop (-1) last sp k hlt
        rw [← HS.out] at hd
        have HD := Lib.hid hd
        have hcc2 := hcn ⟨wr.alloc (.cells #[.int .i64 sp[k].code, .int .i64 sp[k].time] 77), below_alloc' hb _⟩
        simp only at hcc2
        have hnc := Punch.cellsNew wr sp[k] 77 ⟨_, Below.refl _ _⟩
        obtain ⟨x, hx⟩ : ∃ x, x = sp[k] := ⟨_, rfl⟩
        rw [← hx] at hr HD hcc2 hnc
        obtain ⟨q, hq⟩ : ∃ q, q = punchesOk (-1) x.time (sp.drop (k + 1)) := ⟨_, rfl⟩
        have HQ := Lib.hid hq
        rw [← hq] at HD
        have HB := Lib.hid (step_ HW.out (Nat.le_refl _) (below_alloc' hb (.cells #[.int .i64 x.code, .int .i64 x.time] 77)))
        have HB2' := Lib.hid (below_alloc' hb (.cells #[.int .i64 x.code, .int .i64 x.time] 77))
        obtain ⟨xc, xt⟩ := x
        obtain ⟨c1, hc1⟩ : ∃ r, inB xc 31 99 = r := ⟨_, rfl⟩
        obtain ⟨c2, hc2⟩ : ∃ r, inB xt last 36000 = r := ⟨_, rfl⟩
        have HC2 := Lib.hid (show c2 = true ↔ last ≤ xt ∧ xt ≤ 36000 by rw [← hc2]; exact inB_iff)
        have HP := Lib.hid (show punchOk (-1) last ⟨xc, xt⟩ = (c1 && inB xt 0 36000 && decide (last ≤ xt) && ((-1) == -1 || decide (xt ≤ (-1)))) by simp [punchOk, hc1])
        have HI := Lib.hid (@inB_iff xt 0 36000)
        simp only at hcc2 hnc HQ
        clear hat hk hx hq hb hd
        go_wp2_with (first
          | ((with_reducible refine at_load_ 77 ?_); refine Punch.loadImpl rfl _ rfl b (off + k * 2) rfl ⟨xc, xt⟩ hr ?_)
          | (go_at_call 123; refine (l6Code_is _ _ hc1 _).mono ?_; rintro e w' ⟨rfl, rfl⟩)
          | (go_at_call 103; refine (l1In_is _ _ _ _ hc2 _).mono ?_; rintro e w' ⟨rfl, rfl⟩))
        all_goals first
          | (go_ret
             refine ⟨ret_bool ?_, HB.out⟩
             rw [HCO.out, HD.out, HP.out]
             have h1 := HC2.out
             have h2 := HI.out
             grind)
          | (have hst : punchOk (-1) last ⟨xc, xt⟩ = true := by
               rw [HP.out]
               have h1 := HC2.out
               have h2 := HI.out
               grind
             have htt := HC2.out.1 (by assumption)
             obtain ⟨htt1, htt2⟩ := htt
             have HST := Lib.hid hst
             clear hst
             go_roundw
             case rel => exact ⟨k + 1, xt, by omega, by go_num, rfl, by omega, by omega, by show _ = _; rw [HD.out, HST.out, Bool.true_and]; exact HQ.out, HB2'.out⟩
             case measure => simp [intOf]; omega)
      · have HPE := Lib.hid (show punchesOk (-1) r1 sp = true by rw [HS.out, List.drop_eq_nil_of_le (by omega)]; rfl)
        go_wp2
        go_ret
        exact ⟨ret_bool (by rw [HCO.out, HPE.out]; grind), step_ HW.out (Nat.le_refl _) hb⟩
  · obtain ⟨b3, hb3⟩ : ∃ r, inB r2 r1 36000 = r := ⟨_, rfl⟩
    have hf1 : (r2 == -1) = false := by simpa using hf
    have hf2 : (r2 != -1) = true := by simpa using hf
    have HCO := Lib.hid (show cardOk ⟨r0, r1, r2, sp⟩ = (b1 && b2 && b3 && decide (sp.length ≤ 12) && punchesOk r2 r1 sp) by simp [cardOk, hb1, hb2, hb3, hf1])
    clear hs
    go_enter Try.func115, Try.ntmps115
    go_wp2_with (first
      | (go_at_call 103; first | ((with_reducible refine ((l1In_is _ _ _ _ hb1 _)).mono ?_); rintro e w' ⟨rfl, rfl⟩) | ((with_reducible refine ((l1In_is _ _ _ _ hb3 _)).mono ?_); rintro e w' ⟨rfl, rfl⟩))
      | (go_at_call 128; refine (l12Time_is _ _ hb2 _).mono ?_; rintro e w' ⟨rfl, rfl⟩))
    all_goals first
      | (go_ret; exact ⟨ret_bool (by rw [HCO.out]; grind), HW.out⟩)
      | skip
    generalize w.alloc (.cells #[.int .i64 r0, .int .i64 r1, .int .i64 r2, .slice A sp.length c] 51) = W at hcn HW ⊢
    go_loopw [3, 4] (fun l i wr => ∃ (k : Nat) (last : Int), k ≤ sp.length ∧ i = .int .i64 k ∧ l = .int .i64 last ∧ 0 ≤ last ∧ last ≤ 36000 ∧ Hid (punchesOk r2 r1 sp = punchesOk r2 last (sp.drop k)) ∧ Below W.heap.size W wr)
      (fun _ i _ => sp.length - (intOf i).toNat)
    case atStart => exact ⟨0, r1, Nat.zero_le _, rfl, rfl, (HB2.out.1 (by assumption)).1, (HB2.out.1 (by assumption)).2, rfl, Below.refl _ _⟩
    case round =>
      obtain ⟨k, last, hkl, rfl, rfl, hl0, hl1, HS, hb⟩ := hrel
      have hcc := hcn ⟨wr, hb⟩
      simp only at hcc
      by_cases hlt : k < sp.length
      · obtain ⟨b, off, rfl, hat⟩ := flat_at hk (by omega)
        have hr := rangeAt_below (rangeAt_below (hat k hlt) HW.out) hb
        have hd := punchesOk_drop r2 last sp k hlt
        rw [← HS.out] at hd
        have HD := Lib.hid hd
        have hcc2 := hcn ⟨wr.alloc (.cells #[.int .i64 sp[k].code, .int .i64 sp[k].time] 77), below_alloc' hb _⟩
        simp only at hcc2
        have hnc := Punch.cellsNew wr sp[k] 77 ⟨_, Below.refl _ _⟩
        obtain ⟨x, hx⟩ : ∃ x, x = sp[k] := ⟨_, rfl⟩
        rw [← hx] at hr HD hcc2 hnc
        obtain ⟨q, hq⟩ : ∃ q, q = punchesOk r2 x.time (sp.drop (k + 1)) := ⟨_, rfl⟩
        have HQ := Lib.hid hq
        rw [← hq] at HD
        have HB := Lib.hid (step_ HW.out (Nat.le_refl _) (below_alloc' hb (.cells #[.int .i64 x.code, .int .i64 x.time] 77)))
        have HB2' := Lib.hid (below_alloc' hb (.cells #[.int .i64 x.code, .int .i64 x.time] 77))
        obtain ⟨xc, xt⟩ := x
        obtain ⟨c1, hc1⟩ : ∃ r, inB xc 31 99 = r := ⟨_, rfl⟩
        obtain ⟨c2, hc2⟩ : ∃ r, inB xt last 36000 = r := ⟨_, rfl⟩
        have HC2 := Lib.hid (show c2 = true ↔ last ≤ xt ∧ xt ≤ 36000 by rw [← hc2]; exact inB_iff)
        have HP := Lib.hid (show punchOk r2 last ⟨xc, xt⟩ = (c1 && inB xt 0 36000 && decide (last ≤ xt) && (r2 == -1 || decide (xt ≤ r2))) by simp [punchOk, hc1])
        have HI := Lib.hid (@inB_iff xt 0 36000)
        simp only at hcc2 hnc HQ
        clear hat hk hx hq hb hd
        go_wp2_with (first
          | ((with_reducible refine at_load_ 77 ?_); refine Punch.loadImpl rfl _ rfl b (off + k * 2) rfl ⟨xc, xt⟩ hr ?_)
          | (go_at_call 123; refine (l6Code_is _ _ hc1 _).mono ?_; rintro e w' ⟨rfl, rfl⟩)
          | (go_at_call 103; refine (l1In_is _ _ _ _ hc2 _).mono ?_; rintro e w' ⟨rfl, rfl⟩))
        all_goals first
          | (go_ret
             refine ⟨ret_bool ?_, HB.out⟩
             rw [HCO.out, HD.out, HP.out]
             have h1 := HC2.out
             have h2 := HI.out
             grind)
          | (have hst : punchOk r2 last ⟨xc, xt⟩ = true := by
               rw [HP.out]
               have h1 := HC2.out
               have h2 := HI.out
               grind
             have htt := HC2.out.1 (by assumption)
             obtain ⟨htt1, htt2⟩ := htt
             have HST := Lib.hid hst
             clear hst
             go_roundw
             case rel => exact ⟨k + 1, xt, by omega, by go_num, rfl, by omega, by omega, by show _ = _; rw [HD.out, HST.out, Bool.true_and]; exact HQ.out, HB2'.out⟩
             case measure => simp [intOf]; omega)
      · have HPE := Lib.hid (show punchesOk r2 r1 sp = true by rw [HS.out, List.drop_eq_nil_of_le (by omega)]; rfl)
        go_wp2
        go_ret
        exact ⟨ret_bool (by rw [HCO.out, HPE.out]; grind), step_ HW.out (Nat.le_refl _) hb⟩

theorem isZeroCard_any (p : Card) (w : World) (h : p.In w) : Calls Try.prog 96 #[p.val] w fun e w' => e = .returned (.bool (zeroCd p.k)) ∧ Below w.heap.size w w' := by
  have hpl := h.len
  obtain ⟨⟨r0, r1, r2, sp⟩, A, n, c⟩ := p
  simp only at hpl
  subst hpl
  have HW := Lib.hid (show Below w.heap.size w (w.alloc (.cells #[.int .i64 r0, .int .i64 r1, .int .i64 r2, .slice A sp.length c] 51)) from below_alloc (Below.refl _ _) _)
  show Calls Try.prog 96 #[.agg #[.int .i64 r0, .int .i64 r1, .int .i64 r2, .slice A sp.length c]] w fun e w' => e = .returned (.bool (zeroCd ⟨r0, r1, r2, sp⟩)) ∧ Below w.heap.size w w'
  have HZ := Lib.hid (show zeroCd ⟨r0, r1, r2, sp⟩ = (r0 == 0 && r1 == 0 && r2 == 0 && sp.length == 0) from rfl)
  clear h
  go_enter Try.func96, Try.ntmps96
  go_wp2
  all_goals
    go_ret
    refine ⟨ret_bool ?_, below_alloc (Below.refl _ _) _⟩
    have hz := HZ.out
    simp only [zeroCd] at hz ⊢
    grind
end Go.Proofs.Ytojpklpfnmjikaa
