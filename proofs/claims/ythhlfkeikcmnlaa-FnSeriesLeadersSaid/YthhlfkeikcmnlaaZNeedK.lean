/- NeededToLead, the reference's. No condition. -/
import Derived.Test.YthhlfkeikcmnlaaZNeedJ
namespace Go.Proofs.Ythhlfkeikcmnlaa
open Go Go.RowKit

def leadP (m : Int) (l : List Score) (r a : Int) : Bool := a == r || decide (cmpStand l m r a < 0)
theorem leads_all {m : Int} {x : List Score} {r race : Int} {p : Nat} : leadsB m x r race p = (runsS x).all (leadP m (addS x ⟨r, race, p⟩) r) := rfl
theorem all_take {f : Int → Bool} {l : List Int} {k : Nat} (h : k < l.length) : (l.take (k + 1)).all f = ((l.take k).all f && f l[k]) := by
  rw [List.take_succ_eq_append_getElem h, List.all_append]; simp
/-- The search's end. -/
theorem need_found {m : Int} {x : List Score} {r race : Int} {k : Nat} (hk : k ≤ 1001) (h1 : ∀ q, q < k → leadsB m x r race q = false) (h2 : k < 1001 → leadsB m x r race k = true) : needN m x r race = k := firstT_is hk h1 h2

set_option maxRecDepth 100000 in
set_option maxHeartbeats 4000000 in
theorem spec_NeededToLead (n m : Int) (x : List Score) (v : Value) (r race : Int) (w : World) (_ : I64 n) (_ : I64 m) (h : Sl (Flat Score.lst) 3 w v x) (_ : ∀ p ∈ x, Score.ok p) (_ : I64 r) (_ : I64 race) :
    Calls Try.prog 37 #[.int .i64 n, .int .i64 m, v, .int .i64 r, .int .i64 race] w fun e w' => e = .returned (.tuple #[.int .i64 (needV n m x r race), .bool (needB n m x r race)]) ∧ Below w.heap.size w w' := by
  have HSL := Lib.hid (fun W (hW : Below w.heap.size w W) => h.below (Flat.keeps _) hW)
  have HA := Lib.hid (l20Asked_any n m x r v _ h)
  cases hq : askS n m x r
  · obtain ⟨hv, hb⟩ := need_unasked (race := race) hq
    rw [hv, hb]
    rw [hq] at HA
    clear hq hv hb h
    go_enter Try.func37, Try.ntmps37
    go_wp2_with (go_at_call 59; refine HA.out.mono ?_; rintro e w1 ⟨rfl, hb1⟩)
    go_ret2
    exact ⟨rfl, hb1⟩
  · have hgood := (ask_iff.1 hq).1
    have hn40 := good_len hgood
    have hmb := good_best hgood
    obtain ⟨hm1, hm8⟩ := hmb
    rw [hq] at HA
    have HADD := Lib.hid (fun (k : Int) W hW => l20Add_any x ⟨r, race, k⟩ v W (HSL.out W hW) (by omega))
    have HOK := Lib.hid (fun (k : Nat) hk => need_ok (k := k) (race := race) hq hk)
    have H0 := Lib.hid (show goodS n m (addS x ⟨r, race, 0⟩) = needG n m x r race from need_ok (k := 0) hq (by omega))
    obtain ⟨gq, hgq⟩ : ∃ q, needG n m x r race = q := ⟨_, rfl⟩
    have HGQ := Lib.hid hgq
    rw [hgq] at H0 HOK
    have hl0 : (addS x ⟨r, race, 0⟩).length ≤ 41 := by rw [(addS_perm x _).length_eq]; simp; omega
    cases gq
    · obtain ⟨hv, hb⟩ := need_bad hgq
      rw [hv, hb]
      clear hq hgood h hgq hv hb
      go_enter Try.func37, Try.ntmps37
      go_wp2_with (first
        | (go_at_call 59; refine HA.out.mono ?_; rintro e w1 ⟨rfl, hb1⟩)
        | (go_at_call 57; refine (HADD.out 0 _ hb1).mono ?_; rintro e w2 ⟨rr, rfl, row2, hb2⟩)
        | (go_at_call 52; refine (l20Good_any n m (addS x ⟨r, race, 0⟩) _ _ (Sl.of_flat row2)).mono ?_; rintro e w3 ⟨rfl, hb3⟩; rw [H0.out]))
      go_ret2
      exact ⟨rfl, step_ (step_ hb1 (Nat.le_refl _) hb2) (Nat.le_refl _) hb3⟩
    · have HAT := Lib.hid (fun k hb hk h => need_at (k := k) hgq hb hk h)
      have HNO := Lib.hid (fun hb => need_none (n := n) (m := m) (x := x) (r := r) (race := race) hb)
      have HOWN := Lib.hid (fun (k : Nat) (hk : k ≤ 1000) a => Nat.le_trans (own_len (show goodS n m (addS x ⟨r, race, (k : Int)⟩) = true from HOK.out k hk) a) (by omega : 8 ≤ 20))
      have HSM := Lib.hid (fun (k : Nat) (hk : k ≤ 1000) => small_good (show goodS n m (addS x ⟨r, race, (k : Int)⟩) = true from HOK.out k hk))
      have HAL := Lib.hid (fun (k : Nat) => show (addS x ⟨r, race, (k : Int)⟩).length ≤ 41 by rw [(addS_perm x _).length_eq]; simp; omega)
      obtain ⟨l, hl⟩ : ∃ l, l = runsS x := ⟨_, rfl⟩
      have HLD := Lib.hid (fun (k : Nat) => show leadsB m x r race k = l.all (leadP m (addS x ⟨r, race, k⟩) r) by rw [hl]; rfl)
      have hl40 : l.length ≤ 40 := by have := runsS_len x; rw [hl]; omega
      obtain ⟨vv, hvv⟩ : ∃ vv, needV n m x r race = vv := ⟨_, rfl⟩
      obtain ⟨bb, hbb⟩ : ∃ bb, needB n m x r race = bb := ⟨_, rfl⟩
      rw [hvv, hbb] at HAT HNO ⊢
      have HL := Lib.hid hl
      clear hq hgood h hgq hvv hbb hl
      go_enter Try.func37, Try.ntmps37
      go_wp2_with (first
        | (go_at_call 59; refine HA.out.mono ?_; rintro e w1 ⟨rfl, hb1⟩)
        | (go_at_call 57; refine (HADD.out 0 _ hb1).mono ?_; rintro e w2 ⟨rr, rfl, row2, hb2⟩)
        | (go_at_call 52; refine (l20Good_any n m (addS x ⟨r, race, 0⟩) _ _ (Sl.of_flat row2)).mono ?_; rintro e w3 ⟨rfl, hb3⟩; rw [H0.out])
        | (go_at_call 68; have hB3 := step_ (step_ hb1 (Nat.le_refl _) hb2) (Nat.le_refl _) hb3; refine (l20Runners_any x _ _ (HSL.out _ hB3) (by omega)).mono ?_; rintro e w4 ⟨ro, rfl, row4, hb4⟩; have HB4 := Lib.hid (step_ hB3 (Nat.le_refl _) hb4); rw [← HL.out] at row4; obtain ⟨A, c, rfl, hc, hcm⟩ := row4.parts; simp only [List.length_map] at hc row4 ⊢))
      go_loopw [13, 14] (fun lo hi wr => ∃ a b : Nat, a ≤ b ∧ b ≤ 1001 ∧ lo = .int .i64 a ∧ hi = .int .i64 b ∧ Hid (∀ q, q < a → leadsB m x r race q = false) ∧ Hid (b < 1001 → leadsB m x r race b = true) ∧ Hid (Below w4.heap.size w4 wr))
        (fun lo hi _ => (intOf hi).toNat - (intOf lo).toNat)
      case atStart => exact ⟨0, 1001, by omega, by omega, rfl, rfl, fun q hq => absurd hq (by omega), fun h => absurd h (by omega), Below.refl _ _⟩
      case round =>
        obtain ⟨a, b, hab, hb1001, rfl, rfl, HLO, HHI, HB⟩ := hrel
        have HBW := Lib.hid (step_ HB4.out (Nat.le_refl _) HB.out)
        by_cases hlt : a < b
        · obtain ⟨p, hp⟩ : ∃ p : Nat, p = (a + b) / 2 := ⟨_, rfl⟩
          have hpa : a ≤ p := by omega
          have hpb : p < b := by omega
          have hdiv : ((a : Int) + (b : Int)) / 2 = (p : Int) := by omega
          have hdiv2 : ((a : Int) + (b : Int)).tdiv 2 = (p : Int) := by rw [Int.tdiv_eq_ediv_of_nonneg (by omega)]; exact hdiv
          have HLDP := Lib.hid (HLD.out p)
          have HOWNP := Lib.hid (HOWN.out p (by omega))
          have HSMP := Lib.hid (HSM.out p (by omega))
          have hal := HAL.out p
          have HADDP := Lib.hid (HADD.out p wr HBW.out)
          obtain ⟨L, hL⟩ : ∃ L, L = addS x ⟨r, race, (p : Int)⟩ := ⟨_, rfl⟩
          rw [← hL] at HLDP HOWNP HSMP hal HADDP
          clear hL hp
          go_wp2_with (go_at_call 57; refine HADDP.out.mono ?_; rintro e w5 ⟨rn, rfl, row5, hb5⟩)
          have HB5 := Lib.hid (step_ HB.out (Nat.le_refl _) hb5)
          go_loopw [17, 18] (fun t i wi => ∃ j : Nat, j ≤ l.length ∧ i = .int .i64 j ∧ t = .bool ((l.take j).all (leadP m L r)) ∧ Hid (Below w5.heap.size w5 wi))
            (fun _ i _ => l.length - (intOf i).toNat)
          case atStart => exact ⟨0, Nat.zero_le _, rfl, by simp, Below.refl _ _⟩
          case round =>
            obtain ⟨j, hjl, rfl, rfl, HBI⟩ := hrel
            by_cases hj : j < l.length
            · obtain ⟨g, cap, he, hbg, hg, hcap⟩ := row4.form (by simp; omega)
              simp only [Value.slice.injEq, List.length_map] at he
              obtain ⟨rfl, _, rfl⟩ := he
              have hrj := row_int (row4.below (step_ HB5.out (Nat.le_refl _) HBI.out)) hj
              have HT := Lib.hid (all_take (f := leadP m L r) hj)
              obtain ⟨q, hq⟩ : ∃ q, q = l[j] := ⟨_, rfl⟩
              rw [← hq] at hrj HT
              have HROW := Lib.hid (Sl.of_flat row5)
              have HBE := Lib.hid (l20Before_any L m r q _ wr (HROW.out.below (Flat.keeps _) HBI.out) (by omega) (HOWNP.out _) (HOWNP.out _) (by omega) (by omega) HSMP.out)
              obtain ⟨t, ht⟩ : ∃ t, t = (l.take j).all (leadP m L r) := ⟨_, rfl⟩
              rw [← ht] at HT ⊢
              clear hq ht
              cases t
              · go_wp2
                go_roundw
                case rel => exact ⟨j + 1, by omega, by go_num, by rw [HT.out]; rfl, HBI.out⟩
                case measure => simp [intOf]; omega
              · by_cases hqr : q = r
                · subst hqr
                  go_wp2
                  go_roundw
                  case rel => exact ⟨j + 1, by omega, by go_num, by rw [HT.out]; simp [leadP], HBI.out⟩
                  case measure => simp [intOf]; omega
                · have hqr' : (q == r) = false := by simpa using hqr
                  have HPQ := Lib.hid (show leadP m L r q = decide (cmpStand L m r q < 0) by simp [leadP, hqr])
                  clear hqr
                  go_wp2_with (go_at_call 69; refine HBE.out.mono ?_; rintro e w6 ⟨rfl, hb6⟩; rw [← HPQ.out])
                  go_roundw
                  case rel => exact ⟨j + 1, by omega, by go_num, by rw [HT.out]; rfl, step_ HBI.out (Nat.le_refl _) hb6⟩
                  case measure => simp [intOf]; omega
            · obtain rfl : j = l.length := by omega
              rw [List.take_length, ← HLDP.out]
              have HBN := Lib.hid (step_ HB5.out (Nat.le_refl _) HBI.out)
              obtain ⟨t, ht⟩ : ∃ t, leadsB m x r race p = t := ⟨_, rfl⟩
              rw [ht]
              have HT := Lib.hid ht
              clear ht
              cases t
              · go_wp2
                go_roundw
                case rel => exact ⟨p + 1, b, by omega, hb1001, by go_num, rfl, fun q hq => by
                  rcases hc : leadsB m x r race q with _ | _
                  · rfl
                  · have h1 := leads_mono (show q ≤ p by omega) hc
                    rw [HT.out] at h1; exact absurd h1 (by simp), HHI.out, HBN.out⟩
                case measure => simp [intOf]; omega
              · go_wp2
                go_roundw
                case rel => exact ⟨a, p, by omega, by omega, rfl, rfl, HLO.out, fun _ => HT.out, HBN.out⟩
                case measure => simp [intOf]; omega
        · obtain rfl : a = b := by omega
          by_cases h1000 : a ≤ 1000
          · obtain ⟨e1, e2⟩ := HAT.out a HLO.out h1000 (HHI.out (by omega))
            go_wp2
            go_ret2
            exact ⟨by rw [e1, e2]; rfl, HBW.out⟩
          · obtain rfl : a = 1001 := by omega
            obtain ⟨e1, e2⟩ := HNO.out HLO.out
            go_wp2
            go_ret2
            exact ⟨by rw [e1, e2]; rfl, HBW.out⟩
end Go.Proofs.Ythhlfkeikcmnlaa
