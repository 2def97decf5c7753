/- The walks of the tests on runs. No condition. -/
import Derived.Test.YtojpklpfnmjikaaRn
import Derived.Test.YtojpklpfnmjikaaCdB
namespace Go.Proofs.Ytojpklpfnmjikaa
open Go Go.RowKit

def runOk (k : RunK) : Bool := inB k.runner 1 99 && (if k.started = true then cardOk k.card else !k.out && zeroCd k.card)
def StandR (ks : List RunK) (k : Nat) (h : k < ks.length) : Prop := runOk ks[k] = true ∧ (0 < k → ks[k - 1].runner < ks[k].runner)
def GoodRs (ks : List RunK) : Prop := (∀ k (h : k < ks.length), StandR ks k h) ∧ ks.length ≤ 10
noncomputable def goodRs (ks : List RunK) : Bool := @decide (GoodRs ks) (Classical.propDecidable _)
theorem goodRs_iff {ks : List RunK} : goodRs ks = true ↔ GoodRs ks := by simp [goodRs]
theorem goodRs_true {ks : List RunK} (h : GoodRs ks) : goodRs ks = true := goodRs_iff.2 h
theorem goodRs_false {ks : List RunK} (h : ¬ GoodRs ks) : goodRs ks = false := by simp [goodRs, h]

set_option maxHeartbeats 2000000 in
theorem isRun_any (p : Run) (w : World) (h : p.card.In w) : Calls Try.prog 54 #[p.val] w fun e w' => e = .returned (.bool (runOk p.k)) ∧ Below w.heap.size w w' := by
  obtain ⟨h0, h1, h2, ⟨⟨r0, r1, r2, sp⟩, A, n, c⟩⟩ := p
  simp only at h
  have hW : Below w.heap.size w (w.alloc (.cells #[.int .i64 h0, .bool h1, .bool h2, .int .i64 r0, .int .i64 r1, .int .i64 r2, .slice A n c] 53)) := below_alloc (Below.refl _ _) _
  have hr := Run.cardRange (Run.rangeNew w ⟨h0, h1, h2, ⟨⟨r0, r1, r2, sp⟩, A, n, c⟩⟩ 53)
  simp only [Nat.zero_add] at hr
  show Calls Try.prog 54 #[.agg #[.int .i64 h0, .bool h1, .bool h2, .int .i64 r0, .int .i64 r1, .int .i64 r2, .slice A n c]] w fun e w' => e = .returned (.bool (runOk ⟨h0, h1, h2, ⟨r0, r1, r2, sp⟩⟩)) ∧ Below w.heap.size w w'
  obtain ⟨b1, hb1⟩ : ∃ r, inB h0 1 99 = r := ⟨_, rfl⟩
  have HC := Lib.hid (IsCard_any ⟨⟨r0, r1, r2, sp⟩, A, n, c⟩ _ (h.below hW))
  have HZ := Lib.hid (isZeroCard_any ⟨⟨r0, r1, r2, sp⟩, A, n, c⟩ _ (h.below hW))
  obtain ⟨b2, hb2⟩ : ∃ r, cardOk ⟨r0, r1, r2, sp⟩ = r := ⟨_, rfl⟩
  obtain ⟨b3, hb3⟩ : ∃ r, zeroCd ⟨r0, r1, r2, sp⟩ = r := ⟨_, rfl⟩
  simp only at HC HZ
  rw [hb2] at HC
  rw [hb3] at HZ
  have HR := Lib.hid (show runOk ⟨h0, h1, h2, ⟨r0, r1, r2, sp⟩⟩ = (b1 && (if h1 = true then b2 else !h2 && b3)) by simp [runOk, hb1, hb2, hb3])
  have HW := Lib.hid hW
  rw [HR.out]
  clear h hW hb2 hb3
  cases h1 <;> cases h2
  all_goals
    go_enter Try.func54, Try.ntmps54
    go_wp2_with (first
      | (go_at_call 94; refine (inside_is _ _ _ _ hb1 _).mono ?_; rintro e w' ⟨rfl, rfl⟩)
      | ((with_reducible refine at_load_ 51 ?_); refine Card.loadImpl rfl _ rfl w.heap.size 3 rfl ⟨⟨r0, r1, r2, sp⟩, A, n, c⟩ hr ?_)
      | (go_at_call 95; refine HC.out.mono ?_; rintro e w3 ⟨rfl, hb⟩)
      | (go_at_call 96; refine HZ.out.mono ?_; rintro e w3 ⟨rfl, hb⟩))
    all_goals
      go_ret
      first
        | exact ⟨ret_bool (by simp <;> grind), step_ HW.out (Nat.le_refl _) hb⟩
        | exact ⟨ret_bool (by simp <;> grind), HW.out⟩

set_option maxHeartbeats 2000000 in
theorem l15One_any (p : Run) (w : World) (h : p.card.In w) : Calls Try.prog 92 #[p.val] w fun e w' => e = .returned (.bool (runOk p.k)) ∧ Below w.heap.size w w' := by
  have hpl := h.len
  obtain ⟨h0, h1, h2, ⟨⟨r0, r1, r2, sp⟩, A, n, c⟩⟩ := p
  simp only at h hpl
  subst hpl
  have hW : Below w.heap.size w (w.alloc (.cells #[.int .i64 h0, .bool h1, .bool h2, .int .i64 r0, .int .i64 r1, .int .i64 r2, .slice A sp.length c] 53)) := below_alloc (Below.refl _ _) _
  have hr := Run.cardRange (Run.rangeNew w ⟨h0, h1, h2, ⟨⟨r0, r1, r2, sp⟩, A, sp.length, c⟩⟩ 53)
  simp only [Nat.zero_add] at hr
  show Calls Try.prog 92 #[.agg #[.int .i64 h0, .bool h1, .bool h2, .int .i64 r0, .int .i64 r1, .int .i64 r2, .slice A sp.length c]] w fun e w' => e = .returned (.bool (runOk ⟨h0, h1, h2, ⟨r0, r1, r2, sp⟩⟩)) ∧ Below w.heap.size w w'
  obtain ⟨b1, hb1⟩ : ∃ r, inB h0 1 99 = r := ⟨_, rfl⟩
  cases h1 with
  | true =>
    have HC := Lib.hid (l12Card_any ⟨⟨r0, r1, r2, sp⟩, A, sp.length, c⟩ _ (h.below hW))
    obtain ⟨b2, hb2⟩ : ∃ r, cardOk ⟨r0, r1, r2, sp⟩ = r := ⟨_, rfl⟩
    simp only at HC
    rw [hb2] at HC
    have HR := Lib.hid (show runOk ⟨h0, true, h2, ⟨r0, r1, r2, sp⟩⟩ = (b1 && b2) by simp [runOk, hb1, hb2])
    have HW := Lib.hid hW
    rw [HR.out]
    clear h hW hb2
    go_enter Try.func92, Try.ntmps92
    go_wp2_with (first
      | (go_at_call 103; refine (l1In_is _ _ _ _ hb1 _).mono ?_; rintro e w' ⟨rfl, rfl⟩)
      | ((with_reducible refine at_load_ 51 ?_); refine Card.loadImpl rfl _ rfl w.heap.size 3 rfl ⟨⟨r0, r1, r2, sp⟩, A, sp.length, c⟩ hr ?_)
      | (go_at_call 115; refine HC.out.mono ?_; rintro e w3 ⟨rfl, hb⟩))
    all_goals
      go_ret
      first
        | exact ⟨ret_bool (by simp <;> grind), step_ HW.out (Nat.le_refl _) hb⟩
        | exact ⟨ret_bool (by simp <;> grind), HW.out⟩
  | false =>
    have HR := Lib.hid (show runOk ⟨h0, false, h2, ⟨r0, r1, r2, sp⟩⟩ = (b1 && (!h2 && (r0 == 0 && r1 == 0 && r2 == 0 && sp.length == 0))) by simp [runOk, hb1, zeroCd])
    have HW := Lib.hid hW
    rw [HR.out]
    clear h hW hr
    go_enter Try.func92, Try.ntmps92
    go_wp2_with (go_at_call 103; refine (l1In_is _ _ _ _ hb1 _).mono ?_; rintro e w' ⟨rfl, rfl⟩)
    all_goals
      go_ret
      refine ⟨ret_bool ?_, below_alloc (Below.refl _ _) _⟩
      try simp
      try grind

set_option maxHeartbeats 2000000 in
theorem areRuns_any (xs : List Run) (v : Value) (w : World) (h : RunS w v xs) :
    Calls Try.prog 17 #[v] w fun e w' => e = .returned (.bool (goodRs (xs.map Run.k))) ∧ Below w.heap.size w w' := by
  have HI := Lib.hid h.2
  obtain ⟨A, c, rfl, hc, hm, hk⟩ := h.1.open_
  clear h
  go_enter Try.func17, Try.ntmps17
  go_wp2
  go_loopw [7] (fun i wr => ∃ k : Nat, k ≤ xs.length ∧ i = .int .i64 k ∧ Hid (∀ j (h : j < (xs.map Run.k).length), j < k → StandR (xs.map Run.k) j h) ∧ Below w.heap.size w wr)
    (fun i _ => xs.length - (intOf i).toNat)
  case atStart => exact ⟨0, Nat.zero_le _, rfl, fun j h hj => absurd hj (by omega), Below.refl _ _⟩
  case round =>
    obtain ⟨k, hkl, rfl, HS, hb⟩ := hrel
    by_cases hlt : k < xs.length
    · obtain ⟨b, off, rfl, hat⟩ := flat_at hk (by omega)
      have hlk : k < (xs.map Run.k).length := by simpa using hlt
      have hr := rangeAt_below (hat k hlt) hb
      have hin := (HI.out _ (List.getElem_mem hlt)).below hb
      have HX := Lib.hid (show ¬ StandR (xs.map Run.k) k hlk → ¬ GoodRs (xs.map Run.k) from fun hn hA => hn (hA.1 k hlk))
      have HY := Lib.hid (show StandR (xs.map Run.k) k hlk → ∀ j (h : j < (xs.map Run.k).length), j < k + 1 → StandR (xs.map Run.k) j h from fun hn j hj hjk => by
        by_cases e : j < k
        · exact HS.out j hj e
        · obtain rfl : j = k := by omega
          exact hn)
      have HST := Lib.hid (show StandR (xs.map Run.k) k hlk ↔ runOk xs[k].k = true ∧ (0 < k → (xs[k - 1]'(by omega)).runner < xs[k].runner) by simp [StandR, Run.k])
      have hpr : ∀ h0 : 0 < k, wr.rangeAt b (off + (k - 1) * 7) (xs[k - 1]'(by omega)).lst := fun h0 => rangeAt_below (hat (k - 1) (by omega)) hb
      obtain ⟨p, hp⟩ : ∃ p, p = xs[k] := ⟨_, rfl⟩
      rw [← hp] at hr hin HST
      have hWp : Below wr.heap.size wr (wr.alloc (.cells #[.int .i64 p.runner, .bool p.started, .bool p.out, .int .i64 p.card.k.number, .int .i64 p.card.k.start, .int .i64 p.card.k.finish, .slice p.card.a p.card.n p.card.c] 53)) := below_alloc (Below.refl _ _) _
      have HWP := Lib.hid hWp
      have hrn := Run.rangeNew wr p 53
      have HA := Lib.hid (fun (s : After (wr.alloc (.cells #[.int .i64 p.runner, .bool p.started, .bool p.out, .int .i64 p.card.k.number, .int .i64 p.card.k.start, .int .i64 p.card.k.finish, .slice p.card.a p.card.n p.card.c] 53))) => isRun_any p s.w' ((hin.below hWp).below s.hb))
      have hcn := Run.cellsNew wr p 53
      obtain ⟨q, hq⟩ : ∃ q, runOk p.k = q := ⟨_, rfl⟩
      rw [hq] at HA HST
      have HB0 := Lib.hid hb
      clear hat hk hp hq hin hWp
      by_cases h0 : 0 < k
      · have hpr := hpr h0
        obtain ⟨y, hy⟩ : ∃ y, y = xs[k - 1] := ⟨_, rfl⟩
        rw [← hy] at hpr HST
        have hyc := Run.cellsOld (rangeAt_below hpr HWP.out)
        clear hpr hy
        go_wp2_with ((with_reducible refine at_load_ 53 ?_); refine Run.loadImpl rfl _ rfl b (off + k * 7) rfl _ hr ?_)
        refine region_after (by kernel_rfl) (by kernel_rfl) ?_
        repeat (any_goals (first | go_big_quiet_step (((go_at_call 54; exact Calls.after (v := .bool q) _ (HA.out _)))) | (refine Run.qloadImpl rfl _ rfl wr.heap.size 0 rfl p hrn ?_) | quiet_step (((go_at_call 54; exact Calls.after (v := .bool q) _ (HA.out _)))) | (refine wpQuiet_step (fun K hK => ?_); go_simp; split <;> (refine hK _ ?_; clear hK K))))
        all_goals (refine wpQuiet_nil ?_; intro s)
        all_goals go_wp2
        all_goals first
          | (go_ret
             refine ⟨ret_bool (goodRs_false (HX.out (fun hh => ?_))).symm, step_ HB0.out (Nat.le_refl _) (step_ HWP.out (Nat.le_refl _) s.hb)⟩
             have hh := HST.out.1 hh
             have h2 := hh.2 h0
             grind)
          | (have hB2 := step_ HB0.out (Nat.le_refl _) (step_ HWP.out (Nat.le_refl _) s.hb)
             have hst : StandR (xs.map Run.k) k hlk := by
               refine HST.out.2 ⟨?_, fun h0 => ?_⟩
               · grind
               · omega
             have HY2 := Lib.hid (HY.out hst)
             clear hst
             go_roundw
             case rel => exact ⟨k + 1, by omega, by go_num, HY2.out, hB2⟩
             case measure => simp [intOf]; omega)
      · obtain rfl : k = 0 := by omega
        clear hpr h0
        go_wp2_with ((with_reducible refine at_load_ 53 ?_); refine Run.loadImpl rfl _ rfl b (off + 0 * 7) rfl _ hr ?_)
        refine region_after (by kernel_rfl) (by kernel_rfl) ?_
        repeat (any_goals (first | go_big_quiet_step (((go_at_call 54; exact Calls.after (v := .bool q) _ (HA.out _)))) | (refine Run.qloadImpl rfl _ rfl wr.heap.size 0 rfl p hrn ?_) | quiet_step (((go_at_call 54; exact Calls.after (v := .bool q) _ (HA.out _)))) | (refine wpQuiet_step (fun K hK => ?_); go_simp; split <;> (refine hK _ ?_; clear hK K))))
        all_goals (refine wpQuiet_nil ?_; intro s)
        all_goals go_wp2
        all_goals first
          | (go_ret
             refine ⟨ret_bool (goodRs_false (HX.out (fun hh => ?_))).symm, step_ HB0.out (Nat.le_refl _) (step_ HWP.out (Nat.le_refl _) s.hb)⟩
             have hh := HST.out.1 hh
             grind)
          | (have hB2 := step_ HB0.out (Nat.le_refl _) (step_ HWP.out (Nat.le_refl _) s.hb)
             have hst : StandR (xs.map Run.k) 0 hlk := by
               refine HST.out.2 ⟨?_, fun h0 => absurd h0 (by omega)⟩
               grind
             have HY2 := Lib.hid (HY.out hst)
             clear hst
             go_roundw
             case rel => exact ⟨0 + 1, by omega, by go_num, HY2.out, hB2⟩
             case measure => simp [intOf]; omega)
    · go_wp2
      go_ret
      obtain rfl : k = xs.length := by omega
      refine ⟨ret_bool ?_, hb⟩
      by_cases h10 : xs.length ≤ 10
      · rw [goodRs_true ⟨fun j hj => HS.out j hj (by simpa using hj), by simpa using h10⟩]; simp; omega
      · rw [goodRs_false (fun hg => h10 (by simpa using hg.2))]; simp; omega


set_option maxHeartbeats 2000000 in
theorem l15Good_any (xs : List Run) (v : Value) (w : World) (h : RunS w v xs) :
    Calls Try.prog 52 #[v] w fun e w' => e = .returned (.bool (goodRs (xs.map Run.k))) ∧ Below w.heap.size w w' := by
  have HI := Lib.hid h.2
  obtain ⟨A, c, rfl, hc, hm, hk⟩ := h.1.open_
  clear h
  go_enter Try.func52, Try.ntmps52
  go_wp2
  go_loopw [3] (fun i wr => ∃ k : Nat, k ≤ xs.length ∧ i = .int .i64 k ∧ Hid (∀ j (h : j < (xs.map Run.k).length), j < k → StandR (xs.map Run.k) j h) ∧ Below w.heap.size w wr)
    (fun i _ => xs.length - (intOf i).toNat)
  case atStart => exact ⟨0, Nat.zero_le _, rfl, fun j h hj => absurd hj (by omega), Below.refl _ _⟩
  case round =>
    obtain ⟨k, hkl, rfl, HS, hb⟩ := hrel
    by_cases hlt : k < xs.length
    · obtain ⟨b, off, rfl, hat⟩ := flat_at hk (by omega)
      have hlk : k < (xs.map Run.k).length := by simpa using hlt
      have hr := rangeAt_below (hat k hlt) hb
      have hin := (HI.out _ (List.getElem_mem hlt)).below hb
      have HX := Lib.hid (show ¬ StandR (xs.map Run.k) k hlk → ¬ GoodRs (xs.map Run.k) from fun hn hA => hn (hA.1 k hlk))
      have HY := Lib.hid (show StandR (xs.map Run.k) k hlk → ∀ j (h : j < (xs.map Run.k).length), j < k + 1 → StandR (xs.map Run.k) j h from fun hn j hj hjk => by
        by_cases e : j < k
        · exact HS.out j hj e
        · obtain rfl : j = k := by omega
          exact hn)
      have HST := Lib.hid (show StandR (xs.map Run.k) k hlk ↔ runOk xs[k].k = true ∧ (0 < k → (xs[k - 1]'(by omega)).runner < xs[k].runner) by simp [StandR, Run.k])
      have hpr : ∀ h0 : 0 < k, wr.rangeAt b (off + (k - 1) * 7) (xs[k - 1]'(by omega)).lst := fun h0 => rangeAt_below (hat (k - 1) (by omega)) hb
      obtain ⟨p, hp⟩ : ∃ p, p = xs[k] := ⟨_, rfl⟩
      rw [← hp] at hr hin HST
      have HA := Lib.hid (fun (s : After wr) => l15One_any p s.w' (hin.below s.hb))
      have hcn := Run.cellsOld hr
      obtain ⟨q, hq⟩ : ∃ q, runOk p.k = q := ⟨_, rfl⟩
      rw [hq] at HA HST
      have HB0 := Lib.hid hb
      clear hat hk hp hq hin
      by_cases h0 : 0 < k
      · have hpr := hpr h0
        obtain ⟨y, hy⟩ : ∃ y, y = xs[k - 1] := ⟨_, rfl⟩
        rw [← hy] at hpr HST
        have hyc := Run.cellsOld hpr
        clear hpr hy
        go_wp2
        refine region_after (by kernel_rfl) (by kernel_rfl) ?_
        repeat (any_goals (first | go_big_quiet_step (((go_at_call 92; exact Calls.after (v := .bool q) _ (HA.out _)))) | (refine Run.qloadImpl rfl _ rfl b (off + k * 7) rfl p hr ?_) | quiet_step (((go_at_call 92; exact Calls.after (v := .bool q) _ (HA.out _)))) | (refine wpQuiet_step (fun K hK => ?_); go_simp; split <;> (refine hK _ ?_; clear hK K))))
        all_goals (refine wpQuiet_nil ?_; intro s)
        all_goals go_wp2
        all_goals first
          | (go_ret
             refine ⟨ret_bool (goodRs_false (HX.out (fun hh => ?_))).symm, step_ HB0.out (Nat.le_refl _) s.hb⟩
             have hh := HST.out.1 hh
             have h2 := hh.2 h0
             grind)
          | (have hB2 := step_ HB0.out (Nat.le_refl _) s.hb
             have hst : StandR (xs.map Run.k) k hlk := by
               refine HST.out.2 ⟨?_, fun h0 => ?_⟩
               · grind
               · omega
             have HY2 := Lib.hid (HY.out hst)
             clear hst
             go_roundw
             case rel => exact ⟨k + 1, by omega, by go_num, HY2.out, hB2⟩
             case measure => simp [intOf]; omega)
      · obtain rfl : k = 0 := by omega
        clear hpr h0
        go_wp2
        refine region_after (by kernel_rfl) (by kernel_rfl) ?_
        repeat (any_goals (first | go_big_quiet_step (((go_at_call 92; exact Calls.after (v := .bool q) _ (HA.out _)))) | (refine Run.qloadImpl rfl _ rfl b (off + 0 * 7) rfl p hr ?_) | quiet_step (((go_at_call 92; exact Calls.after (v := .bool q) _ (HA.out _)))) | (refine wpQuiet_step (fun K hK => ?_); go_simp; split <;> (refine hK _ ?_; clear hK K))))
        all_goals (refine wpQuiet_nil ?_; intro s)
        all_goals go_wp2
        all_goals first
          | (go_ret
             refine ⟨ret_bool (goodRs_false (HX.out (fun hh => ?_))).symm, step_ HB0.out (Nat.le_refl _) s.hb⟩
             have hh := HST.out.1 hh
             grind)
          | (have hB2 := step_ HB0.out (Nat.le_refl _) s.hb
             have hst : StandR (xs.map Run.k) 0 hlk := by
               refine HST.out.2 ⟨?_, fun h0 => absurd h0 (by omega)⟩
               grind
             have HY2 := Lib.hid (HY.out hst)
             clear hst
             go_roundw
             case rel => exact ⟨0 + 1, by omega, by go_num, HY2.out, hB2⟩
             case measure => simp [intOf]; omega)
    · go_wp2
      go_ret
      obtain rfl : k = xs.length := by omega
      refine ⟨ret_bool ?_, hb⟩
      by_cases h10 : xs.length ≤ 10
      · rw [goodRs_true ⟨fun j hj => HS.out j hj (by simpa using hj), by simpa using h10⟩]; simp; omega
      · rw [goodRs_false (fun hg => h10 (by simpa using hg.2))]; simp; omega

theorem impl_AreRuns (xs : List Run) (ks : List RunK) (v : Value) (w : World) (hk : xs.map Run.k = ks) (h : RunS w v xs) :
    Calls Try.prog 17 #[v] w fun e w' => e = .returned (.bool (goodRs ks)) ∧ Below w.heap.size w w' := hk ▸ areRuns_any xs v w h
theorem spec_AreRuns (xs : List Run) (ks : List RunK) (v : Value) (w : World) (hk : xs.map Run.k = ks) (h : RunS w v xs) :
    Calls Try.prog 15 #[v] w fun e w' => e = .returned (.bool (goodRs ks)) ∧ Below w.heap.size w w' := by
  go_enter Try.func15, Try.ntmps15
  go_wp2_with fail
  refine (l15Good_any xs v _ h).mono ?_
  rintro e w1 ⟨rfl, hb1⟩
  rw [hk]
  go_wp2
  go_ret
  exact ⟨rfl, hb1⟩
end Go.Proofs.Ytojpklpfnmjikaa
