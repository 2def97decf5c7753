/- The library's merge of two runs of integers in place, the walk. Condition: the comparison is an order up to ties, the runs ascend one behind the other. -/
import Derived.Test.YthhlfkeikcmnlaaZSymM
import Derived.BigRegion
namespace Go.Proofs.Ythhlfkeikcmnlaa
open Go Go.RowKit

abbrev MergePost (base g n cap : Nat) (cf : Int → Int → Int) (P A B T : List Int) (w : World) (e : Ending) (w' : World) : Prop :=
  e = .returned (.tuple #[]) ∧ (∃ S, Row base 3 1 w' (.slice (some ⟨g, 0, none⟩) n cap) ((P ++ (S ++ T)).map ints) ∧ S.Perm (A ++ B) ∧ Srt cf S) ∧ w.grownBy w' (some g)

set_option maxRecDepth 100000 in
set_option maxHeartbeats 4000000 in
theorem mergeOne_73 (cap0 cap1 : Value) (cf : Int → Int → Int) (C : Cmp cf) (base g n cap a m b : Nat) (P : List Int) (x : Int) (B T : List Int) (w : World) (hB : 0 < B.length)
    (hrow : Row base 3 1 w (.slice (some ⟨g, 0, none⟩) n cap) ((P ++ ([x] ++ (B ++ T))).map ints)) (hn : n ≤ 1048577) (ha : a = P.length) (hm : m = a + 1) (hb : b = m + B.length) (hc : cap ≤ 9223372036854775807) (hsB : Srt cf B) (hAB : ∀ y ∈ B, x < y)
    (hf : ∀ W y, y ∈ B → w.grownBy W (some g) → Calls Try.prog 73 #[.int .i64 y, .int .i64 x, cap0, cap1] W fun e w' => e = .returned (.int .i64 (cf y x)) ∧ Below W.heap.size W w') :
    Calls Try.prog 108 #[.slice (some ⟨g, 0, none⟩) n cap, .int .i64 a, .int .i64 m, .int .i64 b, .func (.func 73) #[] #[cap0, cap1]] w (MergePost base g n cap cf P [x] B T w) := by
  have hnl := hrow.none_len
  rw [List.length_map] at hnl
  simp only [List.length_append, List.length_singleton] at hnl
  have e1 : (m : Int) - (a : Int) = 1 := by omega
  have HNL := Lib.hid hnl
  have HA := Lib.hid ha
  have HM := Lib.hid hm
  have HBB := Lib.hid hb
  have hmn : m < b := by omega
  have hbn : b ≤ n := by omega
  have HF := Lib.hid hf
  clear hnl ha hm hb hf
  go_enter Try.func108, Try.ntmps108
  go_wp2
  go_loopw [10, 11] (fun i j wr => ∃ p q : Nat, p ≤ q ∧ q ≤ b ∧ m ≤ p ∧ i = .int .i64 p ∧ j = .int .i64 q ∧ Hid (∀ h : m < p, ∃ hl : p - m - 1 < B.length, cf B[p - m - 1] x < 0) ∧ Hid (∀ h : q - m < B.length, 0 ≤ cf B[q - m] x) ∧ Row base 3 1 wr (.slice (some ⟨g, 0, none⟩) n cap) ((P ++ ([x] ++ (B ++ T))).map ints) ∧ w.grownBy wr (some g))
    (fun i j _ => (intOf j).toNat - (intOf i).toNat)
  case atStart => exact ⟨m, b, by omega, by omega, by omega, rfl, rfl, fun h => absurd h (by omega), fun h => absurd h (by have := HBB.out; omega), hrow, World.grownBy.refl _ _⟩
  case round =>
    clear hrow
    obtain ⟨p, q, hpq, hqb, hmp, rfl, rfl, HLO, HHI, hrs, hgs⟩ := hrel
    by_cases hlt : p < q
    · obtain ⟨h, hh⟩ : ∃ h, (p + q) / 2 = h := ⟨_, rfl⟩
      have h1 : p ≤ h := by omega
      have h2 : h < q := by omega
      have hdiv : ((p : Int) + (q : Int)) / 2 = (h : Int) := by omega
      have hrB : h - m < B.length := by have := HBB.out; omega
      have hhl : h < (P ++ ([x] ++ (B ++ T))).length := by have := HNL.out; simp; omega
      have hal : a < (P ++ ([x] ++ (B ++ T))).length := by have := HA.out; simp; omega
      have hc1 := row_int hrs hhl
      have hc2 := row_int hrs hal
      rw [at3_ hrB (by have := HM.out; have := HA.out; simp; omega)] at hc1
      rw [at2_ (r := 0) (by simp) (by have := HA.out; omega)] at hc2
      simp only [List.getElem_singleton] at hc2
      have hd1 := After.keep hc1
      have hd2 := After.keep hc2
      obtain ⟨y, hy⟩ : ∃ y, B[h - m] = y := ⟨_, rfl⟩
      have hym : y ∈ B := hy ▸ List.getElem_mem hrB
      rw [hy] at hd1
      obtain ⟨r, hr⟩ : ∃ r, cf y x = r := ⟨_, rfl⟩
      have HC := Lib.hid (fun (s : After wr) => (HF.out s.w' y hym (grown_trans hgs (grown_of s.hb))).mono fun e w' (h : e = .returned (.int .i64 (cf y x)) ∧ Below s.w'.heap.size s.w' w') => (show e = .returned (.int .i64 r) ∧ Below s.w'.heap.size s.w' w' from ⟨by rw [h.1, hr], h.2⟩))
      have HRB := Lib.hid hrB
      have HY := Lib.hid (show ∀ hl : h - m < B.length, cf B[h - m] x = r from fun hl => by rw [hy, hr])
      have hhn : h < n := by omega
      have han : a < n := by have := HM.out; omega
      clear hc1 hc2 hy hym hr hhl hal hrB hh
      by_cases hr0 : r < 0
      · have hr1 : decide (r < 0) = true := by simpa using hr0
        go_wp2
        refine region_after (by kernel_rfl) (by kernel_rfl) ?_
        repeat (any_goals (first | go_big_quiet_step (((go_at_call 73; exact Calls.after (v := .int .i64 r) _ (HC.out _))))  | quiet_step (((go_at_call 73; exact Calls.after (v := .int .i64 r) _ (HC.out _))))))
        refine wpQuiet_nil ?_
        intro s
        have hrs2 := hrs.below s.hb
        have hgs2 := grown_trans hgs (grown_of s.hb)
        clear HC hd1 hd2 hrs
        go_wp2
        go_roundw
        case rel =>
          refine ⟨h + 1, q, by omega, hqb, by omega, by go_num, rfl, fun _ => ⟨by have := HRB.out; omega, ?_⟩, HHI.out, hrs2, hgs2⟩
          have e : h + 1 - m - 1 = h - m := by omega
          simp only [e]
          rw [HY.out]
          exact hr0
        case measure => simp [intOf]; omega
      · have hr1 : decide (r < 0) = false := by simpa using hr0
        go_wp2
        refine region_after (by kernel_rfl) (by kernel_rfl) ?_
        repeat (any_goals (first | go_big_quiet_step (((go_at_call 73; exact Calls.after (v := .int .i64 r) _ (HC.out _))))  | quiet_step (((go_at_call 73; exact Calls.after (v := .int .i64 r) _ (HC.out _))))))
        refine wpQuiet_nil ?_
        intro s
        have hrs2 := hrs.below s.hb
        have hgs2 := grown_trans hgs (grown_of s.hb)
        clear HC hd1 hd2 hrs
        go_wp2
        go_roundw
        case rel => exact ⟨p, h, by omega, by omega, by omega, rfl, rfl, HLO.out, fun _ => by rw [HY.out]; omega, hrs2, hgs2⟩
        case measure => simp [intOf]; omega
    · obtain rfl : p = q := by omega
      have hiB : p - m ≤ B.length := by have := HBB.out; omega
      have HS := Lib.hid (srt_one C hsB hAB hiB (fun hl => by have := HHI.out hl; omega) (fun h0 => (HLO.out (by omega)).2))
      obtain ⟨i, hi⟩ : ∃ i, p - m = i := ⟨_, rfl⟩
      rw [hi] at HS hiB
      have hpi : p = a + 1 + i := by have := HM.out; omega
      have hw0 : P ++ ([x] ++ (B ++ T)) = wayIn P B T x 0 := by simp [wayIn]
      rw [hw0] at hrs
      have HP := Lib.hid hpi
      clear hpi hi hw0
      go_wp2
      go_loopw [13] (fun kv wi => ∃ k : Nat, k ≤ i ∧ kv = .int .i64 ((a + k : Nat) : Int) ∧ Row base 3 1 wi (.slice (some ⟨g, 0, none⟩) n cap) ((wayIn P B T x k).map ints) ∧ w.grownBy wi (some g))
        (fun kv _ => a + i - (intOf kv).toNat)
      case atStart => exact ⟨0, by omega, rfl, hrs, hgs⟩
      case round =>
        clear hrs hgs
        obtain ⟨k, hki, rfl, hrs, hgs⟩ := hrel
        have hnl := HNL.out
        have hP := HP.out
        have hA := HA.out
        have hwl := wayIn_len (P := P) (B := B) (T := T) (x := x) (q := k) (by omega)
        by_cases hk : k < i
        · have hkB : k < B.length := by omega
          have i1 : a + k < (wayIn P B T x k).length := by omega
          have i2 : a + k + 1 < (wayIn P B T x k).length := by omega
          have he1 := row_int hrs i1
          have he2 := row_int hrs i2
          rw [wayIn_at (by omega) (by omega)] at he1
          rw [wayIn_after hkB (by omega)] at he2
          have HST := Lib.hid (wayIn_up (P := P) (B := B) (T := T) (x := x) (k := a + k) hkB (by omega))
          obtain ⟨y, hy⟩ : ∃ y, B[k] = y := ⟨_, rfl⟩
          rw [hy] at he2 HST
          have hf1 := hrs.frozen (a + k)
          have hf2 := hrs.frozen (a + k + 1)
          have HI1 := Lib.hid i1
          have HI2 := Lib.hid i2
          obtain ⟨u, hu⟩ : ∃ u, a + k = u := ⟨_, rfl⟩
          rw [hu] at he1 he2 HST hf1 hf2 HI1 HI2 ⊢
          have hun : u + 1 < n := by omega
          have hup : u + 1 < p := by omega
          have HU := Lib.hid hu
          clear hy i1 i2 hwl hnl hP hA hu
          go_wp2
          go_region
          obtain ⟨r1, g1⟩ := row_int_set hrs (k := u) (by simpa using HI1.out) y
          obtain ⟨r2, g2⟩ := row_int_set r1 (k := u + 1) (by simpa using HI2.out) x
          have r3 := r2.drew
          have g3 : w.grownBy ((wr.setCell ⟨g, u, none⟩ (.int .i64 y)).setCell ⟨g, u + 1, none⟩ (.int .i64 x)).drew (some g) := grown_trans hgs (grown_trans g1 ⟨g2.os, g2.tape, g2.output, g2.size, g2.block⟩)
          rw [← List.map_set, ← List.map_set, HST.out] at r3
          clear r1 g1 r2 g2 hrs hgs he1 he2 hf1 hf2
          go_wp2
          go_roundw
          case rel => exact ⟨k + 1, by omega, by have := HU.out; congr 1; omega, r3, g3⟩
          case measure => have := HU.out; simp [intOf]; omega
        · obtain rfl : k = i := by omega
          obtain ⟨u, hu⟩ : ∃ u, a + k = u := ⟨_, rfl⟩
          rw [hu]
          have hup : ¬ (u + 1 < p) := by omega
          have hpn : p ≤ n := by omega
          clear hnl hP hA hu hwl
          go_wp2
          exact bodyPost_ret (results_none rfl _ _ _) rfl ⟨rfl, ⟨_, by rw [List.append_assoc]; exact hrs, HS.out.2, HS.out.1⟩, hgs⟩
end Go.Proofs.Ythhlfkeikcmnlaa
