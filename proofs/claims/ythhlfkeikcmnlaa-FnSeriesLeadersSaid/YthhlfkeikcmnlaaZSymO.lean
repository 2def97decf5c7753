/- The library's merge of two runs of integers in place, the second of one number. Condition: the comparison is an order up to ties, the runs ascend one behind the other. -/
import Derived.Test.YthhlfkeikcmnlaaZSymN
namespace Go.Proofs.Ythhlfkeikcmnlaa
open Go Go.RowKit

set_option maxRecDepth 100000 in
set_option maxHeartbeats 4000000 in
theorem mergeLast_73 (cap0 cap1 : Value) (cf : Int → Int → Int) (C : Cmp cf) (base g n cap a m b : Nat) (P A : List Int) (y : Int) (T : List Int) (w : World) (hA2 : 2 ≤ A.length)
    (hrow : Row base 3 1 w (.slice (some ⟨g, 0, none⟩) n cap) ((P ++ (A ++ ([y] ++ T))).map ints)) (hn : n ≤ 1048577) (ha : a = P.length) (hm : m = a + A.length) (hb : b = m + 1) (hc : cap ≤ 9223372036854775807) (hsA : Srt cf A) (hAB : ∀ x ∈ A, x < y)
    (hf : ∀ W x, x ∈ A → w.grownBy W (some g) → Calls Try.prog 73 #[.int .i64 y, .int .i64 x, cap0, cap1] W fun e w' => e = .returned (.int .i64 (cf y x)) ∧ Below W.heap.size W w') :
    Calls Try.prog 108 #[.slice (some ⟨g, 0, none⟩) n cap, .int .i64 a, .int .i64 m, .int .i64 b, .func (.func 73) #[] #[cap0, cap1]] w (MergePost base g n cap cf P A [y] T w) := by
  have hnl := hrow.none_len
  rw [List.length_map] at hnl
  simp only [List.length_append, List.length_singleton] at hnl
  have e0 : ((m : Int) - (a : Int) == 1) = false := by rw [beq_eq_false_iff_ne]; omega
  have e1 : (b : Int) - (m : Int) = 1 := by omega
  have HNL := Lib.hid hnl
  have HA := Lib.hid ha
  have HM := Lib.hid hm
  have HBB := Lib.hid hb
  have ham : a + 2 ≤ m := by omega
  have hbn : b ≤ n := by omega
  have hmb : m < b := by omega
  have HF := Lib.hid hf
  clear hnl ha hm hb hf
  go_enter Try.func108, Try.ntmps108
  go_wp2
  go_loopw [14, 15] (fun i j wr => ∃ p q : Nat, p ≤ q ∧ q ≤ m ∧ a ≤ p ∧ i = .int .i64 p ∧ j = .int .i64 q ∧ Hid (∀ h : a < p, ∃ hl : p - a - 1 < A.length, 0 ≤ cf y A[p - a - 1]) ∧ Hid (∀ h : q - a < A.length, cf y A[q - a] < 0) ∧ Row base 3 1 wr (.slice (some ⟨g, 0, none⟩) n cap) ((P ++ (A ++ ([y] ++ T))).map ints) ∧ w.grownBy wr (some g))
    (fun i j _ => (intOf j).toNat - (intOf i).toNat)
  case atStart => exact ⟨a, m, by omega, by omega, by omega, rfl, rfl, fun h => absurd h (by omega), fun h => absurd h (by have := HM.out; omega), hrow, World.grownBy.refl _ _⟩
  case round =>
    clear hrow
    obtain ⟨p, q, hpq, hqm, hap, rfl, rfl, HLO, HHI, hrs, hgs⟩ := hrel
    by_cases hlt : p < q
    · obtain ⟨h, hh⟩ : ∃ h, (p + q) / 2 = h := ⟨_, rfl⟩
      have h1 : p ≤ h := by omega
      have h2 : h < q := by omega
      have hdiv : ((p : Int) + (q : Int)) / 2 = (h : Int) := by omega
      have hrA : h - a < A.length := by have := HM.out; omega
      have hhl : h < (P ++ (A ++ ([y] ++ T))).length := by have := HNL.out; simp; omega
      have hml : m < (P ++ (A ++ ([y] ++ T))).length := by have := HNL.out; simp; omega
      have hc1 := row_int hrs hhl
      have hc2 := row_int hrs hml
      rw [at2_ hrA (by have := HA.out; omega)] at hc1
      rw [at3_ (r := 0) (by simp) (by have := HA.out; have := HM.out; omega)] at hc2
      simp only [List.getElem_singleton] at hc2
      have hd1 := After.keep hc1
      have hd2 := After.keep hc2
      obtain ⟨x, hx⟩ : ∃ x, A[h - a] = x := ⟨_, rfl⟩
      have hxm : x ∈ A := hx ▸ List.getElem_mem hrA
      rw [hx] at hd1
      obtain ⟨r, hr⟩ : ∃ r, cf y x = r := ⟨_, rfl⟩
      have HC := Lib.hid (fun (s : After wr) => (HF.out s.w' x hxm (grown_trans hgs (grown_of s.hb))).mono fun e w' (h : e = .returned (.int .i64 (cf y x)) ∧ Below s.w'.heap.size s.w' w') => (show e = .returned (.int .i64 r) ∧ Below s.w'.heap.size s.w' w' from ⟨by rw [h.1, hr], h.2⟩))
      have HRA := Lib.hid hrA
      have HX := Lib.hid (show ∀ hl : h - a < A.length, cf y A[h - a] = r from fun hl => by rw [hx, hr])
      have hhn : h < n := by omega
      have hmn : m < n := by omega
      clear hc1 hc2 hx hxm hr hhl hml hrA hh
      by_cases hr0 : r < 0
      · have hr1 : decide (r < 0) = true := by simpa using hr0
        go_wp2
        refine region_after (by kernel_rfl) (by kernel_rfl) ?_
        repeat (any_goals (first | go_big_quiet_step (((go_at_call 73; exact Calls.after (v := .int .i64 r) _ (HC.out _))))  | quiet_step (((go_at_call 73; exact Calls.after (v := .int .i64 r) _ (HC.out _))))))
        refine wpQuiet_nil ?_
        intro s
        have hrs2 := hrs.below s.hb
        have hgs2 := grown_trans hgs (grown_of s.hb)
        clear HC hd1 hd2 hrs
        go_wp2
        go_roundw
        case rel => exact ⟨p, h, by omega, by omega, by omega, rfl, rfl, HLO.out, fun _ => by rw [HX.out]; exact hr0, hrs2, hgs2⟩
        case measure => simp [intOf]; omega
      · have hr1 : decide (r < 0) = false := by simpa using hr0
        go_wp2
        refine region_after (by kernel_rfl) (by kernel_rfl) ?_
        repeat (any_goals (first | go_big_quiet_step (((go_at_call 73; exact Calls.after (v := .int .i64 r) _ (HC.out _))))  | quiet_step (((go_at_call 73; exact Calls.after (v := .int .i64 r) _ (HC.out _))))))
        refine wpQuiet_nil ?_
        intro s
        have hrs2 := hrs.below s.hb
        have hgs2 := grown_trans hgs (grown_of s.hb)
        clear HC hd1 hd2 hrs
        go_wp2
        go_roundw
        case rel =>
          refine ⟨h + 1, q, by omega, hqm, by omega, by go_num, rfl, fun _ => ⟨by have := HRA.out; omega, ?_⟩, HHI.out, hrs2, hgs2⟩
          have e : h + 1 - a - 1 = h - a := by omega
          simp only [e]
          rw [HX.out]
          omega
        case measure => simp [intOf]; omega
    · obtain rfl : p = q := by omega
      have hiA : p - a ≤ A.length := by have := HM.out; omega
      have HS := Lib.hid (srt_last C hsA hAB hiA (fun h0 => by have := (HLO.out (by omega)).2; omega) (fun hl => HHI.out hl))
      obtain ⟨i, hi⟩ : ∃ i, p - a = i := ⟨_, rfl⟩
      rw [hi] at HS hiA
      have hpi : p = a + i := by omega
      have hw0 : P ++ (A ++ ([y] ++ T)) = wayIn P A T y A.length := by simp [wayIn]
      rw [hw0] at hrs
      have HP := Lib.hid hpi
      clear hpi hi hw0
      go_wp2
      go_loopw [17] (fun kv wi => ∃ k : Nat, i ≤ k ∧ k ≤ A.length ∧ kv = .int .i64 ((a + k : Nat) : Int) ∧ Row base 3 1 wi (.slice (some ⟨g, 0, none⟩) n cap) ((wayIn P A T y k).map ints) ∧ w.grownBy wi (some g))
        (fun kv _ => (intOf kv).toNat - a)
      case atStart => exact ⟨A.length, by omega, by omega, by rw [← HM.out], hrs, hgs⟩
      case round =>
        clear hrs hgs
        obtain ⟨k, hik, hkA, rfl, hrs, hgs⟩ := hrel
        have hnl := HNL.out
        have hP := HP.out
        have hA := HA.out
        have hM := HM.out
        have hwl := wayIn_len (P := P) (B := A) (T := T) (x := y) (q := k) (by omega)
        by_cases hk : i < k
        · obtain ⟨k, rfl⟩ : ∃ k', k = k' + 1 := ⟨k - 1, by omega⟩
          have hkB : k < A.length := by omega
          have i1 : a + k < (wayIn P A T y (k + 1)).length := by omega
          have i2 : a + k + 1 < (wayIn P A T y (k + 1)).length := by omega
          have he1 := row_int hrs i1
          have he2 := row_int hrs i2
          rw [wayIn_before (by omega) (by omega) (by omega)] at he1
          rw [wayIn_at (by omega) (by omega)] at he2
          simp only [Nat.add_sub_cancel] at he1
          have HST := Lib.hid (wayIn_down (P := P) (B := A) (T := T) (x := y) (k := a + k) hkB (by omega))
          obtain ⟨x, hx⟩ : ∃ x, A[k] = x := ⟨_, rfl⟩
          rw [hx] at he1 HST
          have hf1 := hrs.frozen (a + k)
          have hf2 := hrs.frozen (a + k + 1)
          have HI1 := Lib.hid i1
          have HI2 := Lib.hid i2
          obtain ⟨u, hu⟩ : ∃ u, a + k = u := ⟨_, rfl⟩
          rw [← Nat.add_assoc, hu]
          rw [hu] at he1 he2 HST hf1 hf2 HI1 HI2
          have hun : u + 1 < n := by omega
          have hup : p < u + 1 := by omega
          have HU := Lib.hid hu
          have hu1 : ((u + 1 : Nat) : Int) - 1 = (u : Int) := by omega
          clear hx i1 i2 hwl hnl hP hA hu hM
          go_wp2
          go_region
          obtain ⟨r1, g1⟩ := row_int_set hrs (k := u + 1) (by simpa using HI2.out) x
          obtain ⟨r2, g2⟩ := row_int_set r1 (k := u) (by simpa using HI1.out) y
          have r3 := r2.drew
          have g3 : w.grownBy ((wr.setCell ⟨g, u + 1, none⟩ (.int .i64 x)).setCell ⟨g, u, none⟩ (.int .i64 y)).drew (some g) := grown_trans hgs (grown_trans g1 ⟨g2.os, g2.tape, g2.output, g2.size, g2.block⟩)
          rw [← List.map_set, ← List.map_set, HST.out] at r3
          clear r1 g1 r2 g2 hrs hgs he1 he2 hf1 hf2
          go_wp2
          go_roundw
          case rel => exact ⟨k, by omega, by omega, by have := HU.out; congr 1; omega, r3, g3⟩
          case measure => have := HU.out; simp [intOf]; omega
        · obtain rfl : k = i := by omega
          obtain ⟨u, hu⟩ : ∃ u, a + k = u := ⟨_, rfl⟩
          rw [hu]
          have hup : ¬ (p < u) := by omega
          have hpn : p ≤ n := by omega
          have hun : u ≤ n := by omega
          clear hnl hP hA hu hwl hM
          go_wp2
          exact bodyPost_ret (results_none rfl _ _ _) rfl ⟨rfl, ⟨_, by rw [List.append_assoc]; exact hrs, HS.out.2, HS.out.1⟩, hgs⟩
end Go.Proofs.Ythhlfkeikcmnlaa
