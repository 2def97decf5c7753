/- The walk of the law FnSeries: it returns true. No condition. -/
import Derived.Test.YthhlfkeikcmnlaaZNeedBSrQ
import Derived.Test.YthhlfkeikcmnlaaZDrSd
import Derived.Test.YthhlfkeikcmnlaaZByte
import Derived.Test.YthhlfkeikcmnlaaZStdA
import Derived.Test.YthhlfkeikcmnlaaZStdB
import Derived.Test.YthhlfkeikcmnlaaZSerRank
import Derived.Test.YthhlfkeikcmnlaaZMost
import Derived.Test.YthhlfkeikcmnlaaZMostS
import Derived.Deep.DeepCutAuto
import Derived.Deep.CutBlock
namespace Go.Proofs.Ythhlfkeikcmnlaa
open Go Go.RowKit

theorem near_i64 {x : Int} (h : NearI x) : I64 x := by unfold I64; omega
theorem drawn_ok {ps : List Score} (h : ∀ p ∈ ps, DrawnS p) : ∀ p ∈ ps, Score.ok p := fun p hp => (h p hp).ok
theorem cntSum_bd (c : List Int) (r : Int) {xs : List Score} (h : ∀ p ∈ xs, DrawnS p) : ∀ k, k ≤ xs.length → -200000 * (k : Int) ≤ cntSum c r (xs.take k) ∧ cntSum c r (xs.take k) ≤ 200000 * (k : Int)
  | 0, _ => by simp [cntSum]
  | k + 1, hk => by
    have ih := cntSum_bd c r h k (by omega)
    have hp := (h xs[k] (List.getElem_mem (by omega))).2.2
    rw [cntSum_step c r xs k (by omega)]
    split <;> omega
/-- What stands at a place of the standings. -/
theorem std_facts (n m : Int) (xs : List Score) (l : List Int) (hl : stdV n m xs = l) : ∀ k (h : k < l.length), askS n m xs l[k] = true ∧ I64 l[k] ∧ 1 ≤ rankV n m xs l[k] ∧ rankV n m xs l[k] ≤ k + 1 ∧
    (∀ (h0 : 0 < k) (h1 : k - 1 < l.length), rankV n m xs l[k - 1] ≤ rankV n m xs l[k] ∧ totV n m xs l[k] ≤ totV n m xs l[k - 1]) := by
  intro k h
  by_cases g : goodS n m xs = true
  · obtain rfl : stdL m xs = l := by rw [← hl, stdV_eq g]
    have hm : (stdL m xs)[k] ∈ stdL m xs := List.getElem_mem h
    refine ⟨ask_of_mem g hm, ?_, (std_at g h).1, (std_at g h).2, fun h0 h1 => ?_⟩
    · have := stdL_bd g _ hm; unfold I64; omega
    · obtain ⟨j, rfl⟩ : ∃ j, k = j + 1 := ⟨k - 1, by omega⟩
      exact std_next g h
  · have : stdV n m xs = [] := by unfold stdV; rw [if_neg g]
    rw [this] at hl
    subst hl
    simp at h
set_option maxRecDepth 100000 in
set_option maxHeartbeats 8000000 in
theorem fnSeries_walk (v0 : Value) (m : Nat) (w : World) (h0 : CodeS w v0 m) :
    Calls Try.prog 13 #[v0] w fun e w' => e = .returned (.bool true) ∧ Below w.heap.size w w' := by
  obtain ⟨q, hq⟩ : ∃ q, q = decide (65536 < m) := ⟨_, rfl⟩
  have HC := Lib.hid h0
  have HV := Lib.hid (rBig_any v0 m q w h0 hq)
  have HB := Lib.hid (Below.refl w.heap.size w)
  clear hq h0
  cases q with
  | true =>
    go_enter Try.func13, Try.ntmps13
    go_wp2_with fail
    refine (HV.out).mono ?_
    rintro e w' ⟨rfl, hb⟩
    replace HB := Lib.hid (step_ HB.out (Nat.le_refl _) hb)
    go_wp2_with fail
    go_ret
    exact ⟨rfl, HB.out⟩
  | false =>
    go_enter Try.func13, Try.ntmps13
    go_wp2_with fail
    refine (HV.out).mono ?_
    rintro e w' ⟨rfl, hb⟩
    replace HB := Lib.hid (step_ HB.out (Nat.le_refl _) hb)
    clear hb HV
    go_wp2_with fail
    refine (draw_Standings v0 m _ (HC.out.below HB.out)).mono ?_
    rintro e w' ⟨r, b, v, x, rfl, hr, hbb, hs, hl, hd, hb⟩
    replace HB := Lib.hid (step_ HB.out (Nat.le_refl _) hb)
    have HS := Lib.hid hs
    have HI := Lib.hid (show ∀ W, Sl (Flat Score.lst) 3 W v x → _ from fun W hW => impl_Standings r b x v W (near_i64 hr) (near_i64 hbb) hW (drawn_ok hd))
    have HJ := Lib.hid (show ∀ W, Sl (Flat Score.lst) 3 W v x → _ from fun W hW => spec_Standings r b x v W (near_i64 hr) (near_i64 hbb) hW (drawn_ok hd))
    have HA := Lib.hid (show ∀ W, Sl (Flat Score.lst) 3 W v x → _ from fun W hW => impl_AreScores r b x v W (near_i64 hr) (near_i64 hbb) hW (drawn_ok hd))
    have HSR := Lib.hid (fun (y : Int) (hy : I64 y) (W : World) (hW : Sl (Flat Score.lst) 3 W v x) => impl_SeriesRank r b x v y W (near_i64 hr) (near_i64 hbb) hW (drawn_ok hd) hy)
    have HST := Lib.hid (fun (y : Int) (hy : I64 y) (W : World) (hW : Sl (Flat Score.lst) 3 W v x) => impl_TotalOf r b x v y W (near_i64 hr) (near_i64 hbb) hW (drawn_ok hd) hy)
    have HN := Lib.hid (std_facts r b x _ rfl)
    have hlen := stdV_len r b x
    generalize goodS r b x = ok at HI HJ HA
    generalize stdV r b x = ov at HI HJ HN hlen
    clear hs hd hb hr hbb hl
    go_wp2_with fail
    refine (HI.out _ HS.out).mono ?_
    rintro e w' ⟨o1, rfl, row1, hb⟩
    replace HB := Lib.hid (step_ HB.out (Nat.le_refl _) hb)
    replace HS := Lib.hid (Sl.below (Flat.keeps _) HS.out hb)
    have HO := Lib.hid (Sl.of_flat row1)
    clear row1 hb
    go_wp2_with fail
    refine (HJ.out _ HS.out).mono ?_
    rintro e w' ⟨o2, rfl, row2, hb⟩
    replace HB := Lib.hid (step_ HB.out (Nat.le_refl _) hb)
    replace HS := Lib.hid (Sl.below (Flat.keeps _) HS.out hb)
    have HE := Lib.hid (rInts_refl _ o1 o2 _ (Sl.below (Flat.keeps _) HO.out hb) (Sl.of_flat row2))
    replace HO := Lib.hid (Sl.below (Flat.keeps _) HO.out hb)
    clear row2 hb HI HJ
    go_wp2_with fail
    refine (HE.out).mono ?_
    rintro e w' ⟨rfl, hb⟩
    replace HB := Lib.hid (step_ HB.out (Nat.le_refl _) hb)
    replace HS := Lib.hid (Sl.below (Flat.keeps _) HS.out hb)
    replace HO := Lib.hid (Sl.below (Flat.keeps _) HO.out hb)
    clear hb HE
    go_wp2_with fail
    refine (HA.out _ HS.out).mono ?_
    rintro e w' ⟨rfl, hb⟩
    replace HB := Lib.hid (step_ HB.out (Nat.le_refl _) hb)
    replace HS := Lib.hid (Sl.below (Flat.keeps _) HS.out hb)
    replace HO := Lib.hid (Sl.below (Flat.keeps _) HO.out hb)
    clear hb HA
    go_upto_block 0 with fail
    go_cut [] (fun wx => Hid (Below w.heap.size w wx))
    case first =>
      obtain ⟨A1, c1, rfl, hc1, hm1, hk1⟩ := HO.out.open_
      generalize w' = W0 at *
      go_wp2_with fail
      go_loopw [10, 11, 12] (fun lv tv iv wr => ∃ (k : Nat) (la tt : Int), k ≤ ov.length ∧ iv = .int .i64 k ∧ lv = .int .i64 la ∧ tv = .int .i64 tt ∧ la ≤ k ∧ 0 ≤ la ∧ Hid (∀ (h0 : 0 < k) (h1 : k - 1 < ov.length), la = rankV r b x ov[k - 1] ∧ tt = totV r b x ov[k - 1]) ∧ (k = 0 → la = 0) ∧ Hid (Below W0.heap.size W0 wr) ∧ Hid (Below w.heap.size w wr))
        (fun _ _ iv _ => ov.length - (intOf iv).toNat)
      case atStart => exact ⟨0, 0, 0, by omega, rfl, rfl, rfl, by omega, by omega, fun h => absurd h (by omega), fun _ => rfl, Below.refl _ _, HB.out⟩
      case round =>
        clear HB
        obtain ⟨k, la, tt, hk, rfl, rfl, rfl, hla, hla0, HPR, hk0, HW, HB⟩ := hrel
        by_cases hlt : k < ov.length
        · have hlti : (k : Int) < (ov.length : Int) := by omega
          obtain ⟨b0, off, rfl, hat⟩ := flat_at hk1 (by omega)
          have hcl := After.keep (int_at (hat k hlt))
          rw [Nat.mul_one] at hcl
          obtain ⟨n1, n2, n3, n4, n5⟩ := HN.out k hlt
          have HN6 := Lib.hid (show ∀ h0 : 0 < k, la ≤ rankV r b x ov[k] ∧ totV r b x ov[k] ≤ tt from fun h0 => by
            obtain ⟨p1, p2⟩ := HPR.out h0 (by omega)
            rw [p1, p2]
            exact n5 h0 (by omega))
          clear n5
          obtain ⟨rk, hrk⟩ : ∃ rk, rk = rankV r b x ov[k] := ⟨_, rfl⟩
          obtain ⟨tk, htk⟩ : ∃ tk, tk = totV r b x ov[k] := ⟨_, rfl⟩
          have HPN := Lib.hid (show ∀ (h0 : 0 < k + 1) (h1 : k + 1 - 1 < ov.length), rk = rankV r b x ov[k + 1 - 1] ∧ tk = totV r b x ov[k + 1 - 1] from fun _ _ => ⟨hrk, htk⟩)
          have HR1 := Lib.hid (HSR.out ov[k] n2)
          have HR2 := Lib.hid (HST.out ov[k] n2)
          rw [n1] at HR1 HR2
          simp only [← hrk, ← htk] at n3 n4 HN6 HR1 HR2
          clear hrk htk
          generalize ov[k] = y at *
          have hcw := hcl ⟨_, HW.out⟩
          have HCL := Lib.hid hcl
          have HS' := Lib.hid (Sl.below (Flat.keeps _) HS.out HW.out)
          clear hat hk1 n1 n2 hcl HPR
          go_wp2_with fail
          refine (HR1.out _ HS'.out).mono ?_
          rintro e w' ⟨rfl, hb⟩
          replace HB := Lib.hid (step_ HB.out (Nat.le_refl _) hb)
          replace HW := Lib.hid (step_ HW.out (Nat.le_refl _) hb)
          replace HS' := Lib.hid (Sl.below (Flat.keeps _) HS'.out hb)
          have hcw2 : w'.cell? ⟨b0, off + k, none⟩ = some (.int .i64 y) := HCL.out ⟨_, HW.out⟩
          clear hb hcw
          go_wp2_with fail
          refine (HR2.out _ HS'.out).mono ?_
          rintro e w' ⟨rfl, hb⟩
          replace HB := Lib.hid (step_ HB.out (Nat.le_refl _) hb)
          replace HW := Lib.hid (step_ HW.out (Nat.le_refl _) hb)
          clear hb hcw2 HS' HCL HR1 HR2
          have q1 : ¬ (rk < la) := by
            by_cases h0 : 0 < k
            · have := (HN6.out h0).1; omega
            · have := hk0 (by omega); omega
          have q2 : ¬ ((k : Int) + 1 < rk) := by omega
          have q3 : 0 < k → ¬ (tt < tk) := fun h0 => by have := (HN6.out h0).2; omega
          clear HN6
          by_cases h0 : k = 0
          · subst h0
            obtain rfl := hk0 rfl
            clear hk0 q3
            obtain rfl : rk = 1 := by omega
            go_wp2_with fail
            go_roundw
            case rel => exact ⟨0 + 1, 1, tk, by omega, rfl, rfl, rfl, by omega, by omega, HPN.out, fun h => absurd h (by omega), HW.out, HB.out⟩
            case measure => simp [intOf]; omega
          · have q4 : (0 : Int) < (k : Int) := by omega
            have q5 := q3 (by omega)
            have q7 : k ≠ 0 := h0
            clear hk0 q3 h0
            by_cases e1 : rk = (k : Int) + 1
            · subst e1
              have q6 : (((k : Int) + 1) == la) = false := by rw [beq_eq_false_iff_ne]; omega
              go_wp2_with fail
              go_roundw
              case rel => exact ⟨k + 1, (k : Int) + 1, tk, by omega, by go_num, rfl, rfl, by omega, by omega, HPN.out, fun h => absurd h (by omega), HW.out, HB.out⟩
              case measure => simp [intOf]; omega
            · have q6 : (rk == (k : Int) + 1) = false := by rw [beq_eq_false_iff_ne]; exact e1
              go_wp2_with fail
              go_roundw
              case rel => exact ⟨k + 1, rk, tk, by omega, by go_num, rfl, rfl, by omega, by omega, HPN.out, fun h => absurd h (by omega), HW.out, HB.out⟩
              case measure => simp [intOf]; omega
        · have hlti : ¬ (k : Int) < (ov.length : Int) := by omega
          go_wp2_with fail
          go_meet
          exact HB
    case rest =>
      clear HB HS HO HN HSR HST hlen
      have HB := hcut
      clear hcut
      go_wp2_with fail
      refine (draw_CountingRaces v0 m _ (HC.out.below HB.out)).mono ?_
      rintro e w' ⟨r, b, v, a, x, rfl, hr, hbb, ha, hs, hl, hd, hb⟩
      replace HB := Lib.hid (step_ HB.out (Nat.le_refl _) hb)
      have HS := Lib.hid hs
      have HI := Lib.hid (show ∀ W, Sl (Flat Score.lst) 3 W v x → _ from fun W hW => impl_CountingRaces r b x v a W (near_i64 hr) (near_i64 hbb) hW (drawn_ok hd) (near_i64 ha))
      have HJ := Lib.hid (show ∀ W, Sl (Flat Score.lst) 3 W v x → _ from fun W hW => spec_CountingRaces r b x v a W (near_i64 hr) (near_i64 hbb) hW (drawn_ok hd) (near_i64 ha))
      have HT := Lib.hid (fun W hW => impl_TotalOf r b x v a W (near_i64 hr) (near_i64 hbb) hW (drawn_ok hd) (near_i64 ha))
      have HLE := Lib.hid (fun h => cntS_best (n := r) (m := b) (xs := x) (r := a) h)
      have HEQ := Lib.hid (fun h => cnt_total (n := r) (m := b) (xs := x) (r := a) h)
      have HST := Lib.hid (fun c k (hk : k < x.length) => cntSum_step c a x k hk)
      have HBD := Lib.hid (fun c k (hk : k ≤ x.length) => cntSum_bd c a hd k hk)
      have HX := Lib.hid hd
      generalize cntS r b x a = cs at HI HJ HLE HEQ
      generalize askS r b x a = fine at HI HJ HT HLE HEQ
      generalize totV r b x a = tot at HT HEQ
      clear hs hd hb hr hbb ha
      go_wp2_with fail
      refine (HI.out _ HS.out).mono ?_
      rintro e w' ⟨o1, rfl, row1, hb⟩
      replace HB := Lib.hid (step_ HB.out (Nat.le_refl _) hb)
      replace HS := Lib.hid (Sl.below (Flat.keeps _) HS.out hb)
      have HO := Lib.hid (Sl.of_flat row1)
      clear row1 hb
      go_wp2_with fail
      refine (HJ.out _ HS.out).mono ?_
      rintro e w' ⟨o2, rfl, row2, hb⟩
      replace HB := Lib.hid (step_ HB.out (Nat.le_refl _) hb)
      replace HS := Lib.hid (Sl.below (Flat.keeps _) HS.out hb)
      have HE := Lib.hid (rInts_refl _ o1 o2 _ (Sl.below (Flat.keeps _) HO.out hb) (Sl.of_flat row2))
      replace HO := Lib.hid (Sl.below (Flat.keeps _) HO.out hb)
      clear row2 hb HI HJ
      go_wp2_with fail
      refine (HE.out).mono ?_
      rintro e w' ⟨rfl, hb⟩
      replace HB := Lib.hid (step_ HB.out (Nat.le_refl _) hb)
      replace HS := Lib.hid (Sl.below (Flat.keeps _) HS.out hb)
      replace HO := Lib.hid (Sl.below (Flat.keeps _) HO.out hb)
      clear hb HE
      by_cases hlb : b < (cs.length : Int)
      · have hff : fine = false := by
          cases fine with
          | false => rfl
          | true => have := HLE.out rfl; omega
        subst hff
        clear HLE HEQ HT HST HBD HX
        obtain ⟨A1, c1, rfl, hc1, hm1, hk1⟩ := HO.out.open_
        clear HO HS
        go_wp2_with fail
        refine (draw_MostPossible v0 m _ (HC.out.below HB.out)).mono ?_
        rintro e w' ⟨r, b, v, a, y, x, rfl, hr, hbb, ha, hy, hs, hl, hd, hb⟩
        replace HB := Lib.hid (step_ HB.out (Nat.le_refl _) hb)
        have HS := Lib.hid hs
        have HI := Lib.hid (show ∀ W, Sl (Flat Score.lst) 3 W v x → _ from fun W hW => impl_MostPossible r b x v a y W (near_i64 hr) (near_i64 hbb) hW (drawn_ok hd) (near_i64 ha) (near_i64 hy))
        have HJ := Lib.hid (show ∀ W, Sl (Flat Score.lst) 3 W v x → _ from fun W hW => spec_MostPossible r b x v a y W (near_i64 hr) (near_i64 hbb) hW (drawn_ok hd) (near_i64 ha) (near_i64 hy))
        have HT := Lib.hid (fun W hW => impl_TotalOf r b x v a W (near_i64 hr) (near_i64 hbb) hW (drawn_ok hd) (near_i64 ha))
        have HM := Lib.hid (fun h => most_bd (n := r) (m := b) (xs := x) (r := a) (h := y) h)
        generalize mostV r b x a y = mv at HI HJ HM
        generalize mostB r b x a y = mb at HI HJ HM
        generalize askS r b x a = ak at HT HM
        generalize totV r b x a = tv at HT HM
        clear hs hd hb hr ha hy hl
        go_wp2_with fail
        refine (HI.out _ HS.out).mono ?_
        rintro e w' ⟨rfl, hb⟩
        replace HB := Lib.hid (step_ HB.out (Nat.le_refl _) hb)
        replace HS := Lib.hid (Sl.below (Flat.keeps _) HS.out hb)
        clear hb HI
        go_wp2_with fail
        refine (HJ.out _ HS.out).mono ?_
        rintro e w' ⟨rfl, hb⟩
        replace HB := Lib.hid (step_ HB.out (Nat.le_refl _) hb)
        replace HS := Lib.hid (Sl.below (Flat.keeps _) HS.out hb)
        clear hb HJ
        cases mb with
        | false =>
          go_wp2_with fail
          go_ret
          exact ⟨rfl, HB.out⟩
        | true =>
          obtain ⟨rfl, m1, m2⟩ := HM.out rfl
          go_wp2_with fail
          refine (HT.out _ HS.out).mono ?_
          rintro e w' ⟨rfl, hb⟩
          replace HB := Lib.hid (step_ HB.out (Nat.le_refl _) hb)
          go_wp2_with fail
          go_ret
          exact ⟨rfl, HB.out⟩
      · obtain ⟨A1, c1, rfl, hc1, hm1, hk1⟩ := HO.out.open_
        cases fine with
        | false =>
          clear HLE HEQ HT HST HBD HX HO HS
          go_wp2_with fail
          refine (draw_MostPossible v0 m _ (HC.out.below HB.out)).mono ?_
          rintro e w' ⟨r, b, v, a, y, x, rfl, hr, hbb, ha, hy, hs, hl, hd, hb⟩
          replace HB := Lib.hid (step_ HB.out (Nat.le_refl _) hb)
          have HS := Lib.hid hs
          have HI := Lib.hid (show ∀ W, Sl (Flat Score.lst) 3 W v x → _ from fun W hW => impl_MostPossible r b x v a y W (near_i64 hr) (near_i64 hbb) hW (drawn_ok hd) (near_i64 ha) (near_i64 hy))
          have HJ := Lib.hid (show ∀ W, Sl (Flat Score.lst) 3 W v x → _ from fun W hW => spec_MostPossible r b x v a y W (near_i64 hr) (near_i64 hbb) hW (drawn_ok hd) (near_i64 ha) (near_i64 hy))
          have HT := Lib.hid (fun W hW => impl_TotalOf r b x v a W (near_i64 hr) (near_i64 hbb) hW (drawn_ok hd) (near_i64 ha))
          have HM := Lib.hid (fun h => most_bd (n := r) (m := b) (xs := x) (r := a) (h := y) h)
          generalize mostV r b x a y = mv at HI HJ HM
          generalize mostB r b x a y = mb at HI HJ HM
          generalize askS r b x a = ak at HT HM
          generalize totV r b x a = tv at HT HM
          clear hs hd hb hr ha hy hl
          go_wp2_with fail
          refine (HI.out _ HS.out).mono ?_
          rintro e w' ⟨rfl, hb⟩
          replace HB := Lib.hid (step_ HB.out (Nat.le_refl _) hb)
          replace HS := Lib.hid (Sl.below (Flat.keeps _) HS.out hb)
          clear hb HI
          go_wp2_with fail
          refine (HJ.out _ HS.out).mono ?_
          rintro e w' ⟨rfl, hb⟩
          replace HB := Lib.hid (step_ HB.out (Nat.le_refl _) hb)
          replace HS := Lib.hid (Sl.below (Flat.keeps _) HS.out hb)
          clear hb HJ
          cases mb with
          | false =>
            go_wp2_with fail
            go_ret
            exact ⟨rfl, HB.out⟩
          | true =>
            obtain ⟨rfl, m1, m2⟩ := HM.out rfl
            go_wp2_with fail
            refine (HT.out _ HS.out).mono ?_
            rintro e w' ⟨rfl, hb⟩
            replace HB := Lib.hid (step_ HB.out (Nat.le_refl _) hb)
            go_wp2_with fail
            go_ret
            exact ⟨rfl, HB.out⟩
        | true =>
          have HEQ := Lib.hid (HEQ.out rfl)
          clear HLE hk1
          obtain ⟨A2, c2, rfl, hc2, hm2, hk2⟩ := HS.out.open_
          generalize w' = W0 at *
          go_wp2_with fail
          go_loopw [25, 26] (fun pv iv wr => ∃ (k : Nat), k ≤ x.length ∧ iv = .int .i64 k ∧ pv = .int .i64 (cntSum cs a (x.take k)) ∧ Hid (Below W0.heap.size W0 wr) ∧ Hid (Below w.heap.size w wr))
            (fun _ iv _ => x.length - (intOf iv).toNat)
          case atStart => exact ⟨0, by omega, rfl, by simp [cntSum], Below.refl _ _, HB.out⟩
          case round =>
            clear HB
            obtain ⟨k, hk, rfl, rfl, HW, HB⟩ := hrel
            by_cases hlt : k < x.length
            · have hlti : (k : Int) < (x.length : Int) := by omega
              obtain ⟨b0, off, rfl, hat⟩ := flat_at hk2 (by omega)
              have hsc := Score.cells (rangeAt_below (hat k hlt) HW.out)
              have hst := HST.out cs k hlt
              have hb1 := HBD.out cs k (by omega)
              have hb2 := HBD.out cs (k + 1) (by omega)
              have HH := Lib.hid (rHas_any cs x[k].race _ _ (Sl.below (Flat.keeps _) HO.out HW.out))
              have HCL := Lib.hid (fun W (hW : Below W0.heap.size W0 W) => Score.cells (rangeAt_below (hat k hlt) hW))
              have HS1 := Lib.hid hst
              rw [hst] at hb2
              have HXP := Lib.hid (HX.out _ (List.getElem_mem hlt)).2.2
              generalize cntSum cs a (x.take k) = S at *
              generalize x[k] = p at *
              obtain ⟨p0, p1, p2⟩ := p
              simp only at hsc HH HXP
              clear hat hk2 hst
              by_cases hrn : p0 = a
              · subst hrn
                go_wp2_with fail
                refine HH.out.mono ?_
                rintro e w' ⟨rfl, hb⟩
                replace HB := Lib.hid (step_ HB.out (Nat.le_refl _) hb)
                replace HW := Lib.hid (step_ HW.out (Nat.le_refl _) hb)
                have hsc2 := HCL.out _ HW.out
                try simp only at hsc2
                by_cases hm : p1 ∈ cs
                · have hS : (if p0 = p0 ∧ p1 ∈ cs then p2 else 0) = p2 := by simp [hm]
                  rw [decide_eq_true hm]
                  have HS2 := Lib.hid (HS1.out.trans (by simp [hm]) : cntSum cs p0 (x.take (k + 1)) = S + p2)
                  have hpb := HXP.out
                  clear hb hsc hS hm HS1 HCL HH hb2
                  go_wp2_with fail
                  go_roundw
                  case rel => exact ⟨k + 1, by omega, by go_num, by rw [HS2.out], HW.out, HB.out⟩
                  case measure => simp [intOf]; omega
                · rw [decide_eq_false hm]
                  have HS2 := Lib.hid (HS1.out.trans (by simp [hm]) : cntSum cs p0 (x.take (k + 1)) = S)
                  clear hb hsc hm HS1 HCL HH hb2
                  go_wp2_with fail
                  go_roundw
                  case rel => exact ⟨k + 1, by omega, by go_num, by rw [HS2.out], HW.out, HB.out⟩
                  case measure => simp [intOf]; omega
              · have hrn' : (p0 == a) = false := by simpa using hrn
                have HS2 := Lib.hid (HS1.out.trans (by simp [hrn]) : cntSum cs a (x.take (k + 1)) = S)
                clear hrn HS1 HCL HH hb2
                go_wp2_with fail
                go_roundw
                case rel => exact ⟨k + 1, by omega, by go_num, by rw [HS2.out], HW.out, HB.out⟩
                case measure => simp [intOf]; omega
            · have hlti : ¬ (k : Int) < (x.length : Int) := by omega
              obtain rfl : k = x.length := by omega
              have HS2 := Lib.hid (Sl.below (Flat.keeps _) HS.out HW.out)
              rw [List.take_length, HEQ.out]
              clear HEQ HST HBD HX HO HS hk2
              go_wp2_with fail
              refine (HT.out _ HS2.out).mono ?_
              rintro e w' ⟨rfl, hb⟩
              replace HB := Lib.hid (step_ HB.out (Nat.le_refl _) hb)
              clear hb HT HS2 HW
              go_wp2_with fail
              refine (draw_MostPossible v0 m _ (HC.out.below HB.out)).mono ?_
              rintro e w' ⟨r, b, v, a, y, x, rfl, hr, hbb, ha, hy, hs, hl, hd, hb⟩
              replace HB := Lib.hid (step_ HB.out (Nat.le_refl _) hb)
              have HS := Lib.hid hs
              have HI := Lib.hid (show ∀ W, Sl (Flat Score.lst) 3 W v x → _ from fun W hW => impl_MostPossible r b x v a y W (near_i64 hr) (near_i64 hbb) hW (drawn_ok hd) (near_i64 ha) (near_i64 hy))
              have HJ := Lib.hid (show ∀ W, Sl (Flat Score.lst) 3 W v x → _ from fun W hW => spec_MostPossible r b x v a y W (near_i64 hr) (near_i64 hbb) hW (drawn_ok hd) (near_i64 ha) (near_i64 hy))
              have HT := Lib.hid (fun W hW => impl_TotalOf r b x v a W (near_i64 hr) (near_i64 hbb) hW (drawn_ok hd) (near_i64 ha))
              have HM := Lib.hid (fun h => most_bd (n := r) (m := b) (xs := x) (r := a) (h := y) h)
              generalize mostV r b x a y = mv at HI HJ HM
              generalize mostB r b x a y = mb at HI HJ HM
              generalize askS r b x a = ak at HT HM
              generalize totV r b x a = tv at HT HM
              clear hs hd hb hr ha hy hl
              go_wp2_with fail
              refine (HI.out _ HS.out).mono ?_
              rintro e w' ⟨rfl, hb⟩
              replace HB := Lib.hid (step_ HB.out (Nat.le_refl _) hb)
              replace HS := Lib.hid (Sl.below (Flat.keeps _) HS.out hb)
              clear hb HI
              go_wp2_with fail
              refine (HJ.out _ HS.out).mono ?_
              rintro e w' ⟨rfl, hb⟩
              replace HB := Lib.hid (step_ HB.out (Nat.le_refl _) hb)
              replace HS := Lib.hid (Sl.below (Flat.keeps _) HS.out hb)
              clear hb HJ
              cases mb with
              | false =>
                go_wp2_with fail
                go_ret
                exact ⟨rfl, HB.out⟩
              | true =>
                obtain ⟨rfl, m1, m2⟩ := HM.out rfl
                go_wp2_with fail
                refine (HT.out _ HS.out).mono ?_
                rintro e w' ⟨rfl, hb⟩
                replace HB := Lib.hid (step_ HB.out (Nat.le_refl _) hb)
                go_wp2_with fail
                go_ret
                exact ⟨rfl, HB.out⟩
              all_goals trivial
end Go.Proofs.Ythhlfkeikcmnlaa
