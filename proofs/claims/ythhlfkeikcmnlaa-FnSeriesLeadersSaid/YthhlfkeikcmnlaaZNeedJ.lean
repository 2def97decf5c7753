/- NeededToLead, the program's. No condition. -/
import Derived.Test.YthhlfkeikcmnlaaZNeedBSrQ
namespace Go.Proofs.Ythhlfkeikcmnlaa
open Go Go.RowKit

set_option maxRecDepth 100000 in
set_option maxHeartbeats 4000000 in
theorem impl_NeededToLead (n m : Int) (x : List Score) (v : Value) (r race : Int) (w : World) (_ : I64 n) (_ : I64 m) (h : Sl (Flat Score.lst) 3 w v x) (_ : ∀ p ∈ x, Score.ok p) (_ : I64 r) (_ : I64 race) :
    Calls Try.prog 38 #[.int .i64 n, .int .i64 m, v, .int .i64 r, .int .i64 race] w fun e w' => e = .returned (.tuple #[.int .i64 (needV n m x r race), .bool (needB n m x r race)]) ∧ Below w.heap.size w w' := by
  have hW : Below w.heap.size w ((w.alloc (.cells #[.int .i64 m] 3)).alloc (.cells #[.int .i64 r] 3)) := below_alloc (below_alloc (Below.refl _ _) _) _
  have HSL := Lib.hid (fun W (hW : Below w.heap.size w W) => h.below (Flat.keeps _) hW)
  have HA := Lib.hid (hasScore_any n m x r v _ (h.below (Flat.keeps _) hW))
  have HW := Lib.hid hW
  have hc0 : ((w.alloc (.cells #[.int .i64 m] 3)).alloc (.cells #[.int .i64 r] 3)).cell? ⟨w.heap.size, 0, none⟩ = some (.int .i64 m) := by
    have h1 : (w.alloc (.cells #[.int .i64 m] 3)).cell? ⟨w.heap.size, 0, none⟩ = some (.int .i64 m) := by simp [go_sem]
    exact After.keep h1 ⟨_, below_alloc (Below.refl _ _) _⟩
  have hc1 : ((w.alloc (.cells #[.int .i64 m] 3)).alloc (.cells #[.int .i64 r] 3)).cell? ⟨w.heap.size + 1, 0, none⟩ = some (.int .i64 r) := by
    simp
  cases hq : askS n m x r
  · obtain ⟨hv, hb⟩ := need_unasked (race := race) hq
    rw [hv, hb]
    rw [hq] at HA
    clear hq hv hb h hW
    go_enter Try.func38, Try.ntmps38
    go_wp2_with (go_at_call 61; refine HA.out.mono ?_; rintro e w1 ⟨rfl, hb1⟩)
    go_ret2
    exact ⟨rfl, step_ HW.out (Nat.le_refl _) hb1⟩
  · have hgood := (ask_iff.1 hq).1
    have hn40 := good_len hgood
    have hmb := good_best hgood
    obtain ⟨hm1, hm8⟩ := hmb
    rw [hq] at HA
    have HOK := Lib.hid (fun (k : Nat) hk => need_ok (k := k) (race := race) hq hk)
    have HRUN := Lib.hid (fun p h2 => runsS_add (race := race) (p := p) (mem_of_ask hq) hgood h2)
    have HW0 := Lib.hid (show ∀ W', Below ((w.alloc (.cells #[.int .i64 m] 3)).alloc (.cells #[.int .i64 r] 3)).heap.size ((w.alloc (.cells #[.int .i64 m] 3)).alloc (.cells #[.int .i64 r] 3)) W' → W'.cell? ⟨w.heap.size, 0, none⟩ = some (.int .i64 m) ∧ W'.cell? ⟨w.heap.size + 1, 0, none⟩ = some (.int .i64 r) from fun W' hW' => ⟨After.keep hc0 ⟨W', hW'⟩, After.keep hc1 ⟨W', hW'⟩⟩)
    have HAT := Lib.hid (fun (hg : needG n m x r race = true) k hb hk h => need_at (k := k) hg hb hk h)
    have HNO := Lib.hid (fun hb => need_none (n := n) (m := m) (x := x) (r := r) (race := race) hb)
    have HBAD := Lib.hid (fun hg => need_bad (n := n) (m := m) (x := x) (r := r) (race := race) hg)
    obtain ⟨gq, hgq⟩ : ∃ q, needG n m x r race = q := ⟨_, rfl⟩
    rw [hgq] at HAT HBAD HOK
    clear hgq hq hgood h hW
    obtain ⟨vv, hvv⟩ : ∃ vv, needV n m x r race = vv := ⟨_, rfl⟩
    obtain ⟨bb, hbb⟩ : ∃ bb, needB n m x r race = bb := ⟨_, rfl⟩
    rw [hvv, hbb] at HAT HNO HBAD ⊢
    clear hvv hbb
    go_enter Try.func38, Try.ntmps38
    go_wp2_with (go_at_call 61; refine HA.out.mono ?_; rintro e w1 ⟨rfl, hb1⟩)
    have HB1 := Lib.hid hb1
    clear hb1 hc0 hc1 HA
    go_loopw [12] (fun p wr => ∃ k : Nat, k ≤ 1001 ∧ p = .int .i64 k ∧ Hid (∀ q, q < k → leadsB m x r race q = false) ∧ Hid (Below ((w.alloc (.cells #[.int .i64 m] 3)).alloc (.cells #[.int .i64 r] 3)).heap.size ((w.alloc (.cells #[.int .i64 m] 3)).alloc (.cells #[.int .i64 r] 3)) wr))
      (fun p _ => 1001 - (intOf p).toNat)
    case atStart => exact ⟨0, by omega, rfl, fun q hq => absurd hq (by omega), HB1.out⟩
    case round =>
      clear HB1
      obtain ⟨k, hkl, rfl, HLB, HB⟩ := hrel
      have HBW := Lib.hid (step_ HW.out (Nat.le_refl _) HB.out)
      by_cases hlt : k ≤ 1000
      · obtain ⟨hcm, hcr⟩ := HW0.out _ HB.out
        have HOKK := Lib.hid (HOK.out k hlt)
        have HWS := Lib.hid (withScore_any n m x ⟨r, race, k⟩ v wr (HSL.out _ HBW.out) (by omega))
        have hok : addOk n m x ⟨r, race, k⟩ = gq := HOKK.out
        have hout : gq = true → addOut n m x ⟨r, race, k⟩ = addS x ⟨r, race, k⟩ := fun h => by unfold addOut; rw [hok, if_pos h]
        rw [hok] at HWS
        cases gq
        · obtain ⟨e1, e2⟩ := HBAD.out (by trivial)
          clear hok hout HOKK
          go_wp2_with fail
          refine HWS.out.mono ?_
          rintro e w2 ⟨rr, rfl, row2, hb2⟩
          obtain ⟨A2, c2, rfl, hc2, hm2⟩ := row2.parts
          go_wp2
          go_ret2
          exact ⟨by rw [e1, e2]; rfl, by first | exact below_alloc (step_ HBW.out (Nat.le_refl _) hb2) _ | exact step_ HBW.out (Nat.le_refl _) hb2⟩
        · rw [hout (by trivial)] at HWS
          have hgl : goodS n m (addS x ⟨r, race, k⟩) = true := HOKK.out
          have HRK := Lib.hid (HRUN.out k hgl)
          have HLD := Lib.hid (leads_any (m := m) (x := x) (r := r) (race := race) (p := k))
          have hl40 := good_len hgl
          have HOWN := Lib.hid (fun a => Nat.le_trans (own_len hgl a) (by omega : 8 ≤ 20))
          have HSM := Lib.hid (small_good hgl)
          obtain ⟨l, hl⟩ : ∃ l, l = addS x ⟨r, race, (k : Int)⟩ := ⟨_, rfl⟩
          rw [← hl] at HWS HRK HLD hl40 HOWN HSM
          obtain ⟨q, hq⟩ : ∃ q, leadsB m x r race k = q := ⟨_, rfl⟩
          rw [hq] at HLD
          have HQ := Lib.hid hq
          clear hok hout hl hgl hq HOKK
          cases q <;>
          · go_wp2_with fail
            refine HWS.out.mono ?_
            rintro e w2 ⟨rr, rfl, row2, hb2⟩
            obtain ⟨A2, c2, rfl, hc2, hm2⟩ := row2.parts
            simp only [List.length_map] at row2 hc2 ⊢
            have hb3 := below_alloc hb2 (.cells #[.slice A2 l.length c2] 25)
            have hbx : (w2.alloc (.cells #[.slice A2 l.length c2] 25)).cell? ⟨w2.heap.size, 0, none⟩ = some (.slice A2 l.length c2) := by
              simp
            have HR3 := Lib.hid (row2.alloc (.cells #[.slice A2 l.length c2] 25))
            have HBX := Lib.hid hbx
            have HB3 := Lib.hid (step_ HB.out (Nat.le_refl _) hb3)
            have HBW3 := Lib.hid (step_ HBW.out (Nat.le_refl _) hb3)
            clear row2 hb2 hb3 hbx hcm hcr
            go_wp2_with fail
            refine (scoreRunners_any l _ _ (Sl.of_flat HR3.out) (by omega)).mono ?_
            rintro e w4 ⟨ro, rfl, row4, hb4⟩
            rw [HRK.out] at row4
            have HR4 := Lib.hid (HR3.out.below hb4)
            have HB4 := Lib.hid (step_ HB3.out (Nat.le_refl _) hb4)
            have HBW4 := Lib.hid (step_ HBW3.out (Nat.le_refl _) hb4)
            have HBX4 := Lib.hid (show w4.cell? ⟨w2.heap.size, 0, none⟩ = some (.slice A2 l.length c2) from After.keep HBX.out ⟨w4, hb4⟩)
            clear hb4
            go_wp2_with fail
            refine (containsFunc_75 _ _ _ (noLead m l r) (runsS x) _ _ (Sl.of_flat row4) (fun s j hj => noLead_any _ r m l A2 l.length c2 (w.heap.size + 1) w2.heap.size w.heap.size s.w' (HW0.out _ (step_ HB4.out (Nat.le_refl _) s.hb)).2 (After.keep HBX4.out s) (HW0.out _ (step_ HB4.out (Nat.le_refl _) s.hb)).1 ((Sl.of_flat HR4.out).below (Flat.keeps _) s.hb) (by omega) (HOWN.out _) (HOWN.out _) (by omega) (by omega) HSM.out)).mono ?_
            rintro e w5 ⟨rfl, hb5⟩
            rw [HLD.out]
            have HB5 := Lib.hid (step_ HB4.out (Nat.le_refl _) hb5)
            have HBW5 := Lib.hid (step_ HBW4.out (Nat.le_refl _) hb5)
            clear hb5 row4
            go_wp2
            first
              | (go_ret2
                 obtain ⟨e1, e2⟩ := HAT.out (by trivial) k HLB.out hlt HQ.out
                 exact ⟨by rw [e1, e2]; rfl, HBW5.out⟩)
              | (go_roundw
                 case rel => exact ⟨k + 1, by omega, by go_num, fun q hq => by
                   by_cases e : q < k
                   · exact HLB.out q e
                   · obtain rfl : q = k := by omega
                     exact HQ.out, HB5.out⟩
                 case measure => simp [intOf]; omega)
      · obtain rfl : k = 1001 := by omega
        obtain ⟨e1, e2⟩ := HNO.out HLB.out
        go_wp2
        go_ret2
        exact ⟨by rw [e1, e2]; rfl, HBW.out⟩
end Go.Proofs.Ythhlfkeikcmnlaa
