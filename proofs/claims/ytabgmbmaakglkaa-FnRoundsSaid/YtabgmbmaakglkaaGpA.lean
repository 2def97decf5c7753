/- The walks of the gap between two runners, the program's and the reference's. No condition. -/
import Derived.Test.YtabgmbmaakglkaaGpQ
import Derived.Test.YtabgmbmaakglkaaHtB
namespace Go.Proofs.Ytabgmbmaakglkaa
open Go Go.RowKit

theorem idx_tOf {h : HK} (g : GoodH h) (a : Int) : (idxA (fun y => a == y) h.runners = -1 ∧ tOf h a = 0) ∨ ∃ (i : Nat) (_ : i < h.runners.length) (ht : i < h.times.length), idxA (fun y => a == y) h.runners = (i : Int) ∧ tOf h a = h.times[i] := by
  rcases idxA_cases (fun y => a == y) h.runners with ⟨h1, h2⟩ | ⟨k, hk, h1, h2, _⟩
  · exact .inl ⟨h1, tOf_none g fun hm => by have := h2 a hm; simp at this⟩
  · have e : a = h.runners[k] := eq_of_beq h2
    have hl := g.2.1
    refine .inr ⟨k, hk, by omega, h1, ?_⟩
    conv => lhs; rw [e]
    exact tOf_at g hk (by omega)

theorem ret_pair {V v : Int} {Q q : Bool} (h1 : V = v) (h2 : Q = q) : Ending.returned (.tuple #[.int .i64 v, .bool q]) = .returned (.tuple #[.int .i64 V, .bool Q]) := by rw [h1, h2]
set_option maxRecDepth 100000 in
set_option maxHeartbeats 8000000 in
theorem impl_GapIn (p : Ht) (a b : Int) (w : World) (h : p.In w) :
    Calls Try.prog 38 #[p.val, .int .i64 a, .int .i64 b] w fun e w' => e = .returned (.tuple #[.int .i64 (gapV p.k a b), .bool (gapB p.k a b)]) ∧ Below w.heap.size w w' := by
  have hpl := h.len
  obtain ⟨⟨rs, ts⟩, A, n, c, B, m, d⟩ := p
  simp only at hpl
  obtain ⟨rfl, rfl⟩ := hpl
  have hW : Below w.heap.size w (w.alloc (.cells #[.slice A rs.length c, .slice B ts.length d] 28)) := below_alloc (Below.refl _ _) _
  have hcn := Ht.cellsNew w ⟨⟨rs, ts⟩, A, rs.length, c, B, ts.length, d⟩ 28
  simp only at hcn
  have h2 := h.below hW
  have HW := Lib.hid hW
  have hc0 := hcn ⟨_, Below.refl _ _⟩
  simp only at hc0
  show Calls Try.prog 38 #[.agg #[.slice A rs.length c, .slice B ts.length d], .int .i64 a, .int .i64 b] w fun e w' => e = .returned (.tuple #[.int .i64 (gapV ⟨rs, ts⟩ a b), .bool (gapB ⟨rs, ts⟩ a b)]) ∧ Below w.heap.size w w'
  clear h hW
  obtain ⟨W, hWe⟩ : ∃ W, W = w.alloc (.cells #[.slice A rs.length c, .slice B ts.length d] 28) := ⟨_, rfl⟩
  rw [← hWe] at hcn h2 HW hc0
  have HONE := Lib.hid (fun (s : After W) => IsHeat_any ⟨⟨rs, ts⟩, A, rs.length, c, B, ts.length, d⟩ s.w' (h2.below s.hb))
  have hr : Sl (Flat ints) 1 W (.slice A rs.length c) rs := h2.1
  obtain ⟨ia, hia⟩ : ∃ ia, idxA (fun y => a == y) rs = ia := ⟨_, rfl⟩
  obtain ⟨ib, hib⟩ : ∃ ib, idxA (fun y => b == y) rs = ib := ⟨_, rfl⟩
  have HC1 := Lib.hid (fun (s : After W) => indexInt_any rs (.slice A rs.length c) a s.w' (hr.below (Flat.keeps _) s.hb))
  have HC2 := Lib.hid (fun (s : After W) => indexInt_any rs (.slice A rs.length c) b s.w' (hr.below (Flat.keeps _) s.hb))
  rw [hia] at HC1
  rw [hib] at HC2
  have ht : Sl (Flat ints) 1 W (.slice B ts.length d) ts := h2.2
  obtain ⟨B', d', hv, hcB, hmB, hkB⟩ := ht.open_
  simp only [Value.slice.injEq] at hv
  obtain ⟨rfl, _, rfl⟩ := hv
  obtain ⟨V, hV⟩ : ∃ V, V = gapV ⟨rs, ts⟩ a b := ⟨_, rfl⟩
  obtain ⟨Q, hQ⟩ : ∃ Q, Q = gapB ⟨rs, ts⟩ a b := ⟨_, rfl⟩
  rw [← hV, ← hQ]
  have HV := Lib.hid hV
  have HQ := Lib.hid hQ
  have HWE := Lib.hid hWe
  clear hV hQ hr ht h2
  go_enter Try.func38, Try.ntmps38
  go_wp2_with fail
  rw [← HWE.out]
  clear hWe
  have hd1 := fun (s : After W) => hcn s
  refine region_after (by kernel_rfl) (by kernel_rfl) ?_
  repeat (any_goals (first | go_big_quiet_step ((first | (go_at_call 73; with_reducible exact Calls.after_same (v := .int .i64 ia) _ (HC1.out _)) | (go_at_call 73; with_reducible exact Calls.after_same (v := .int .i64 ib) _ (HC2.out _))))  | quiet_step ((first | (go_at_call 73; with_reducible exact Calls.after_same (v := .int .i64 ia) _ (HC1.out _)) | (go_at_call 73; with_reducible exact Calls.after_same (v := .int .i64 ib) _ (HC2.out _)))) | (refine wpQuiet_step (fun K hK => ?_); go_simp; split <;> (refine hK _ ?_; clear hK K))))
  all_goals (refine wpQuiet_nil ?_; intro s)
  obtain ⟨w1, hw1⟩ : ∃ w1, s.w' = w1 := ⟨_, rfl⟩
  have hb1 := s.hb
  rw [hw1] at hb1 ⊢
  have hc1 := hcn ⟨w1, hb1⟩
  simp only at hc1
  clear hw1 s hd1 HC1 HC2
  cases hg : goodH ⟨rs, ts⟩ with
  | false =>
    have HQ := Lib.hid (show Q = false by rw [HQ.out]; exact gapB_bad hg)
    have HV := Lib.hid (show V = 0 by rw [HV.out]; exact gap_no (gapB_bad hg))
    have HO := Lib.hid (HONE.out ⟨w1, hb1⟩)
    simp only [hg] at HO
    clear hg
    go_wp2_with (go_at_call 37; refine HO.out.mono ?_; rintro e w2 ⟨rfl, hb2⟩)
    go_ret2
    exact ⟨ret_pair HV.out HQ.out, step_ HW.out (Nat.le_refl _) (step_ hb1 (Nat.le_refl _) hb2)⟩
  | true =>
    have gg := goodH_iff.1 hg
    have HBD := Lib.hid (fun x => tOf_bd gg x)
    have HO := Lib.hid (HONE.out ⟨w1, hb1⟩)
    simp only [hg] at HO
    rcases idx_tOf gg a with ⟨e1, e2⟩ | ⟨i, hi, hit, e1, e2⟩
    · have HQ := Lib.hid (show Q = false by rw [HQ.out]; exact gapB_a e2)
      have HV := Lib.hid (show V = 0 by rw [HV.out]; exact gap_no (gapB_a e2))
      simp only at e1
      obtain rfl : ia = -1 := hia.symm.trans e1
      clear hg gg e1 e2 hia hib
      go_wp2_with (go_at_call 37; refine HO.out.mono ?_; rintro e w2 ⟨rfl, hb2⟩)
      go_ret2
      exact ⟨ret_pair HV.out HQ.out, step_ HW.out (Nat.le_refl _) (step_ hb1 (Nat.le_refl _) hb2)⟩
    · simp only at e1 e2 hi hit
      obtain rfl : ia = (i : Int) := hia.symm.trans e1
      rcases idx_tOf gg b with ⟨f1, f2⟩ | ⟨j, hj, hjt, f1, f2⟩
      · have HQ := Lib.hid (show Q = false by rw [HQ.out]; exact gapB_b f2)
        have HV := Lib.hid (show V = 0 by rw [HV.out]; exact gap_no (gapB_b f2))
        simp only at f1
        obtain rfl : ib = -1 := hib.symm.trans f1
        have hz1 : ¬ ((i : Int) < 0) := by omega
        clear hg gg e1 e2 f1 f2 hia hib
        go_wp2_with (go_at_call 37; refine HO.out.mono ?_; rintro e w2 ⟨rfl, hb2⟩)
        go_ret2
        exact ⟨ret_pair HV.out HQ.out, step_ HW.out (Nat.le_refl _) (step_ hb1 (Nat.le_refl _) hb2)⟩
      · simp only at f1 f2 hj hjt
        obtain rfl : ib = (j : Int) := hib.symm.trans f1
        obtain ⟨bb, ob, rfl, hatB⟩ := flat_at hkB (by omega)
        have HTI := Lib.hid (show ∀ s : After W, s.w'.cell? ⟨bb, ob + i, none⟩ = some (.int .i64 ts[i]) from by
          have := After.keep (int_at (hatB i hit)); rw [Nat.mul_one] at this; exact this)
        have HTJ := Lib.hid (show ∀ s : After W, s.w'.cell? ⟨bb, ob + j, none⟩ = some (.int .i64 ts[j]) from by
          have := After.keep (int_at (hatB j hjt)); rw [Nat.mul_one] at this; exact this)
        have hbi := HBD.out a
        have hbj := HBD.out b
        rw [e2] at hbi
        rw [f2] at hbj
        have HE2 := Lib.hid e2
        have HF2 := Lib.hid f2
        obtain ⟨ti, hti⟩ : ∃ t, t = ts[i] := ⟨_, rfl⟩
        obtain ⟨tj, htj⟩ : ∃ t, t = ts[j] := ⟨_, rfl⟩
        rw [← hti] at HTI HE2 hbi
        rw [← htj] at HTJ HF2 hbj
        have hz1 : ¬ ((i : Int) < 0) := by omega
        have hz2 : ¬ ((j : Int) < 0) := by omega
        have hz3 : (0 : Int) ≤ (i : Int) := by omega
        have hz4 : (i : Int) < (ts.length : Int) := by omega
        have hz5 : (0 : Int) ≤ (j : Int) := by omega
        have hz6 : (j : Int) < (ts.length : Int) := by omega
        have HGG := Lib.hid hg
        clear hg gg e1 e2 f1 f2 hia hib hti htj hatB hkB HBD
        go_wp2_with fail
        refine HO.out.mono ?_
        rintro e w2 ⟨rfl, hb2⟩
        have hB2 := step_ hb1 (Nat.le_refl _) hb2
        have hc2 := hcn ⟨w2, hB2⟩
        have hci := HTI.out ⟨w2, hB2⟩
        have hcj := HTJ.out ⟨w2, hB2⟩
        simp only at hc2 hci hcj
        have HB2 := Lib.hid hB2
        clear hb1 hb2 hc1 hB2
        by_cases hi0 : ti = 0
        · have HQ := Lib.hid (show Q = false by rw [HQ.out]; exact gapB_a (HE2.out.trans hi0))
          have HV := Lib.hid (show V = 0 by rw [HV.out]; exact gap_no (gapB_a (HE2.out.trans hi0)))
          have hi0' : (ti == 0) = true := by simpa using hi0
          clear hi0
          go_wp2
          go_ret2
          exact ⟨ret_pair HV.out HQ.out, step_ HW.out (Nat.le_refl _) HB2.out⟩
        · have hi0' : (ti == 0) = false := by simpa using hi0
          by_cases hj0 : tj = 0
          · have HQ := Lib.hid (show Q = false by rw [HQ.out]; exact gapB_b (HF2.out.trans hj0))
            have HV := Lib.hid (show V = 0 by rw [HV.out]; exact gap_no (gapB_b (HF2.out.trans hj0)))
            have hj0' : (tj == 0) = true := by simpa using hj0
            clear hi0 hj0
            go_wp2
            go_ret2
            exact ⟨ret_pair HV.out HQ.out, step_ HW.out (Nat.le_refl _) HB2.out⟩
          · have hj0' : (tj == 0) = false := by simpa using hj0
            have gq := gapB_yes (a := a) (b := b) HGG.out (by rw [HE2.out]; exact hi0) (by rw [HF2.out]; exact hj0)
            have HQ := Lib.hid (show Q = true by rw [HQ.out]; exact gq)
            have HV := Lib.hid (show V = tj - ti by rw [HV.out, gap_yes gq, HE2.out, HF2.out])
            have hwt : IntKind.i64.wrap (tj - ti) = tj - ti := by rw [IntKind.wrap_i64]; omega
            have hdi := fun (s : After w2) => HTI.out ⟨s.w', step_ HB2.out (Nat.le_refl _) s.hb⟩
            have hdj := fun (s : After w2) => HTJ.out ⟨s.w', step_ HB2.out (Nat.le_refl _) s.hb⟩
            have hdc := fun (s : After w2) => hcn ⟨s.w', step_ HB2.out (Nat.le_refl _) s.hb⟩
            simp only at hdi hdj hdc
            clear hi0 hj0 gq
            go_wp2
            refine region_after (by kernel_rfl) (by kernel_rfl) ?_
            repeat (any_goals (first | go_big_quiet_step (fail)  | quiet_step (fail) | (refine wpQuiet_step (fun K hK => ?_); go_simp; split <;> (refine hK _ ?_; clear hK K))))
            all_goals (refine wpQuiet_nil ?_; intro s)
            go_wp2
            go_ret2
            exact ⟨ret_pair HV.out HQ.out, step_ HW.out (Nat.le_refl _) (step_ HB2.out (Nat.le_refl _) s.hb)⟩

set_option maxRecDepth 100000 in
set_option maxHeartbeats 8000000 in
theorem spec_GapIn (p : Ht) (a b : Int) (w : World) (h : p.In w) :
    Calls Try.prog 42 #[p.val, .int .i64 a, .int .i64 b] w fun e w' => e = .returned (.tuple #[.int .i64 (gapV p.k a b), .bool (gapB p.k a b)]) ∧ Below w.heap.size w w' := by
  have hpl := h.len
  obtain ⟨⟨rs, ts⟩, A, n, c, B, m, d⟩ := p
  simp only at hpl
  obtain ⟨rfl, rfl⟩ := hpl
  have hW : Below w.heap.size w (w.alloc (.cells #[.slice A rs.length c, .slice B ts.length d] 28)) := below_alloc (Below.refl _ _) _
  have hcn := Ht.cellsNew w ⟨⟨rs, ts⟩, A, rs.length, c, B, ts.length, d⟩ 28
  simp only at hcn
  have h2 := h.below hW
  have HW := Lib.hid hW
  have hc0 := hcn ⟨_, Below.refl _ _⟩
  simp only at hc0
  show Calls Try.prog 42 #[.agg #[.slice A rs.length c, .slice B ts.length d], .int .i64 a, .int .i64 b] w fun e w' => e = .returned (.tuple #[.int .i64 (gapV ⟨rs, ts⟩ a b), .bool (gapB ⟨rs, ts⟩ a b)]) ∧ Below w.heap.size w w'
  clear h hW
  have HONE := Lib.hid (l18One_any ⟨⟨rs, ts⟩, A, rs.length, c, B, ts.length, d⟩ _ h2)
  cases hg : goodH ⟨rs, ts⟩ with
  | false =>
    have e1 := gapB_bad (a := a) (b := b) hg
    rw [gap_no e1, e1]
    simp only [hg] at HONE
    clear hg e1 h2
    go_enter Try.func42, Try.ntmps42
    go_wp2_with (go_at_call 51; refine HONE.out.mono ?_; rintro e w2 ⟨rfl, hb2⟩)
    go_ret2
    exact ⟨rfl, step_ HW.out (Nat.le_refl _) hb2⟩
  | true =>
    have gg := goodH_iff.1 hg
    have HGG := Lib.hid hg
    have HBD := Lib.hid (fun x => tOf_bd gg x)
    have HHIT := Lib.hid (fun a k x hk ht e f => foundTo_hit gg (a := a) (k := k) (x := x) hk ht e f)
    have HMISS := Lib.hid (fun a k x hk e f => foundTo_miss (h := ⟨rs, ts⟩) (a := a) (k := k) (x := x) hk e f)
    have HALL := Lib.hid (fun a x f => foundTo_all gg (a := a) (x := x) f)
    have E2 := Lib.hid (show ts.length = rs.length from gg.2.1)
    simp only [hg] at HONE
    have hr : Sl (Flat ints) 1 _ (.slice A rs.length c) rs := h2.1
    have ht : Sl (Flat ints) 1 _ (.slice B ts.length d) ts := h2.2
    obtain ⟨A', c', hv, hcA, hmA, hkA⟩ := hr.open_
    simp only [Value.slice.injEq] at hv
    obtain ⟨rfl, _, rfl⟩ := hv
    obtain ⟨B', d', hv, hcB, hmB, hkB⟩ := ht.open_
    simp only [Value.slice.injEq] at hv
    obtain ⟨rfl, _, rfl⟩ := hv
    obtain ⟨V, hV⟩ : ∃ V, V = gapV ⟨rs, ts⟩ a b := ⟨_, rfl⟩
    obtain ⟨Q, hQ⟩ : ∃ Q, Q = gapB ⟨rs, ts⟩ a b := ⟨_, rfl⟩
    rw [← hV, ← hQ]
    have HV := Lib.hid hV
    have HQ := Lib.hid hQ
    clear hV hQ hr ht h2 hg gg
    go_enter Try.func42, Try.ntmps42
    go_wp2_with fail
    generalize w.alloc (.cells #[.slice A rs.length c, .slice B ts.length d] 28) = W at *
    refine HONE.out.mono ?_
    rintro e w1 ⟨rfl, hb1⟩
    have hc1 := hcn ⟨w1, hb1⟩
    simp only at hc1
    have HB1 := Lib.hid hb1
    clear hc0 hb1 HONE
    go_wp2
    go_loop [8, 9, 10] (fun x y i => ∃ (k : Nat) (xa xb : Int), k ≤ rs.length ∧ i = .int .i64 k ∧ x = .int .i64 xa ∧ y = .int .i64 xb ∧ Hid (FoundTo ⟨rs, ts⟩ a k xa) ∧ Hid (FoundTo ⟨rs, ts⟩ b k xb))
      (fun _ _ i => rs.length - (intOf i).toNat)
    case atStart => exact ⟨0, 0, 0, Nat.zero_le _, rfl, rfl, rfl, foundTo_zero _ _, foundTo_zero _ _⟩
    case round =>
      obtain ⟨k, xa, xb, hkl, rfl, rfl, rfl, HFA, HFB⟩ := hrel
      by_cases hlr : k < rs.length
      · have hlt : k < ts.length := by have := E2.out; omega
        obtain ⟨a1, oa, rfl, hatA⟩ := flat_at hkA (by omega)
        obtain ⟨b1, ob, rfl, hatB⟩ := flat_at hkB (by omega)
        have hcr := int_at (rangeAt_below (hatA k hlr) HB1.out)
        have hct := int_at (rangeAt_below (hatB k hlt) HB1.out)
        rw [Nat.mul_one] at hcr hct
        have HHA := Lib.hid (fun e => HHIT.out a k xa hlr hlt e HFA.out)
        have HHB := Lib.hid (fun e => HHIT.out b k xb hlr hlt e HFB.out)
        have HMA := Lib.hid (fun e => HMISS.out a k xa hlr e HFA.out)
        have HMB := Lib.hid (fun e => HMISS.out b k xb hlr e HFB.out)
        (try simp only at HHA HHB HMA HMB)
        obtain ⟨r, hrr⟩ : ∃ r, r = rs[k] := ⟨_, rfl⟩
        obtain ⟨t, htt⟩ : ∃ t, t = ts[k] := ⟨_, rfl⟩
        rw [← hrr] at hcr HHA HHB HMA HMB
        rw [← htt] at hct HHA HHB
        clear hatA hatB hkA hkB hrr htt HFA HFB
        cases q1 : (r == a) with
        | true =>
          have HNA := Lib.hid (HHA.out (eq_of_beq q1))
          cases q2 : (r == b) with
          | true =>
            have HNB := Lib.hid (HHB.out (eq_of_beq q2))
            go_wp2
            go_round
            case rel => exact ⟨k + 1, t, t, by omega, by go_num, rfl, rfl, HNA.out, HNB.out⟩
            case measure => simp [intOf]; omega
          | false =>
            have HNB := Lib.hid (HMB.out (by simpa using q2))
            go_wp2
            go_round
            case rel => exact ⟨k + 1, t, xb, by omega, by go_num, rfl, rfl, HNA.out, HNB.out⟩
            case measure => simp [intOf]; omega
        | false =>
          have HNA := Lib.hid (HMA.out (by simpa using q1))
          cases q2 : (r == b) with
          | true =>
            have HNB := Lib.hid (HHB.out (eq_of_beq q2))
            go_wp2
            go_round
            case rel => exact ⟨k + 1, xa, t, by omega, by go_num, rfl, rfl, HNA.out, HNB.out⟩
            case measure => simp [intOf]; omega
          | false =>
            have HNB := Lib.hid (HMB.out (by simpa using q2))
            go_wp2
            go_round
            case rel => exact ⟨k + 1, xa, xb, by omega, by go_num, rfl, rfl, HNA.out, HNB.out⟩
            case measure => simp [intOf]; omega
      · obtain rfl : k = rs.length := by omega
        have ea := HALL.out a xa HFA.out
        have eb := HALL.out b xb HFB.out
        have hba := HBD.out a
        have hbb := HBD.out b
        rw [← ea] at hba
        rw [← eb] at hbb
        have HEA := Lib.hid ea
        have HEB := Lib.hid eb
        clear ea eb HFA HFB
        by_cases ha0 : xa = 0
        · have HQ := Lib.hid (show Q = false by rw [HQ.out]; exact gapB_a (HEA.out.symm.trans ha0))
          have HV := Lib.hid (show V = 0 by rw [HV.out]; exact gap_no (gapB_a (HEA.out.symm.trans ha0)))
          have ha0' : (xa == 0) = true := by simpa using ha0
          clear ha0
          go_wp2
          go_ret2
          exact ⟨ret_pair HV.out HQ.out, step_ HW.out (Nat.le_refl _) HB1.out⟩
        · have ha0' : (xa == 0) = false := by simpa using ha0
          by_cases hb0 : xb = 0
          · have HQ := Lib.hid (show Q = false by rw [HQ.out]; exact gapB_b (HEB.out.symm.trans hb0))
            have HV := Lib.hid (show V = 0 by rw [HV.out]; exact gap_no (gapB_b (HEB.out.symm.trans hb0)))
            have hb0' : (xb == 0) = true := by simpa using hb0
            clear ha0 hb0
            go_wp2
            go_ret2
            exact ⟨ret_pair HV.out HQ.out, step_ HW.out (Nat.le_refl _) HB1.out⟩
          · have hb0' : (xb == 0) = false := by simpa using hb0
            have gq := gapB_yes (a := a) (b := b) HGG.out (by rw [← HEA.out]; exact ha0) (by rw [← HEB.out]; exact hb0)
            have HQ := Lib.hid (show Q = true by rw [HQ.out]; exact gq)
            have HV := Lib.hid (show V = xb - xa by rw [HV.out, gap_yes gq, ← HEA.out, ← HEB.out])
            have hwt : IntKind.i64.wrap (xb - xa) = xb - xa := by rw [IntKind.wrap_i64]; omega
            clear ha0 hb0 gq
            go_wp2
            go_ret2
            exact ⟨ret_pair HV.out HQ.out, step_ HW.out (Nat.le_refl _) HB1.out⟩
end Go.Proofs.Ytabgmbmaakglkaa
