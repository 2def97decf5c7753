/- The walks of the status of a run. No condition. -/
import Derived.Test.YtojpklpfnmjikaaFoS
namespace Go.Proofs.Ytojpklpfnmjikaa
open Go Go.RowKit

theorem areCodes1_any (c : Int) (w : World) : Calls Try.prog 125 #[.int .i64 c] w fun e w' => e = .returned (.bool (!inB c 31 99)) ∧ Below w.heap.size w w' := by
  go_enter Try.func125, Try.ntmps125
  go_wp2_with (go_at_call 121; refine (isCode_any _ _).mono ?_; rintro e w' ⟨rfl, rfl⟩)
  go_ret
  exact ⟨rfl, Below.refl _ _⟩
set_option maxHeartbeats 1000000 in
theorem areCodes_any (cs : List Int) (v : Value) (w : World) (hs : Sl (Flat ints) 1 w v cs) : Calls Try.prog 105 #[v] w fun e w' => e = .returned (.bool (codesOk cs)) ∧ Below w.heap.size w w' := by
  have HC := Lib.hid (containsFunc_125 (fun c => !inB c 31 99) cs v w hs (fun s k _ => areCodes1_any _ s.w'))
  obtain ⟨q, hq⟩ : ∃ q, q = cs.any fun c => !inB c 31 99 := ⟨_, rfl⟩
  have HO := Lib.hid (show codesOk cs = (decide (cs.length ≤ 12) && !q) by rw [hq]; rfl)
  obtain ⟨B, d, rfl, hd, hdm, _⟩ := hs.open_
  by_cases hl : cs.length ≤ 12
  · have HL := Lib.hid hl
    have hq' := HC.out
    have HC2 := Lib.hid (show Calls Try.prog 124 #[.slice B cs.length d, .func (.func 125) #[] #[]] w fun e w' => e = .returned (.bool q) ∧ Below w.heap.size w w' by rw [hq]; exact hq')
    clear hq hq' HC hs
    go_enter Try.func105, Try.ntmps105
    go_wp2_with (go_at_call 124; refine HC2.out.mono ?_; rintro e w1 ⟨rfl, hb1⟩)
    go_ret
    exact ⟨ret_bool (by rw [HO.out]; simp [HL.out]), hb1⟩
  · have HL := Lib.hid hl
    clear hq HC hs
    go_enter Try.func105, Try.ntmps105
    go_wp2
    go_ret
    exact ⟨ret_bool (by rw [HO.out]; simp [HL.out]), Below.refl _ _⟩
set_option maxHeartbeats 1000000 in
theorem l12Codes_any (cs : List Int) (v : Value) (w : World) (hs : Sl (Flat ints) 1 w v cs) : Calls Try.prog 102 #[v] w fun e w' => e = .returned (.bool (codesOk cs)) ∧ Below w.heap.size w w' := by
  obtain ⟨B, d, rfl, hd, hdm, hk⟩ := hs.open_
  clear hs
  go_enter Try.func102, Try.ntmps102
  go_wp2
  go_loop [3] (fun i => ∃ k : Nat, k ≤ cs.length ∧ i = .int .i64 k ∧ Hid (∀ j (h : j < cs.length), j < k → inB cs[j] 31 99 = true))
    (fun i => cs.length - (intOf i).toNat)
  case atStart => exact ⟨0, Nat.zero_le _, rfl, fun j h hj => absurd hj (by omega)⟩
  case round =>
    obtain ⟨k, hkl, rfl, HS⟩ := hrel
    by_cases hlt : k < cs.length
    · obtain ⟨b, off, rfl, hat⟩ := flat_at hk (by omega)
      have hr := int_at (hat k hlt)
      rw [Nat.mul_one] at hr
      have HX := Lib.hid (show inB cs[k] 31 99 = false → codesOk cs = false from fun h => by
        have : cs.any (fun c => !inB c 31 99) = true := List.any_eq_true.2 ⟨_, List.getElem_mem hlt, by simp [h]⟩
        simp [codesOk, this])
      have HY := Lib.hid (show inB cs[k] 31 99 = true → ∀ j (h : j < cs.length), j < k + 1 → inB cs[j] 31 99 = true from fun hn j hj hjk => by
        by_cases e : j < k
        · exact HS.out j hj e
        · obtain rfl : j = k := by omega
          exact hn)
      obtain ⟨x, hx⟩ : ∃ x, x = cs[k] := ⟨_, rfl⟩
      rw [← hx] at hr HX HY
      clear hat hk hx
      cases hq : inB x 31 99 with
      | true =>
        have HY2 := Lib.hid (HY.out hq)
        go_wp2_with (go_at_call 123; refine (l6Code_is _ _ hq _).mono ?_; rintro e w' ⟨rfl, rfl⟩)
        go_round
        case rel => exact ⟨k + 1, by omega, by go_num, HY2.out⟩
        case measure => simp [intOf]; omega
      | false =>
        have HX2 := Lib.hid (HX.out hq)
        go_wp2_with (go_at_call 123; refine (l6Code_is _ _ hq _).mono ?_; rintro e w' ⟨rfl, rfl⟩)
        go_ret
        exact ⟨ret_bool HX2.out.symm, Below.refl _ _⟩
    · obtain rfl : k = cs.length := by omega
      have HA := Lib.hid (show codesOk cs = decide (cs.length ≤ 12) by
        have : cs.any (fun c => !inB c 31 99) = false := by
          rw [List.any_eq_false]
          intro x hx
          obtain ⟨j, hj, rfl⟩ := List.getElem_of_mem hx
          simp [HS.out j hj hj]
        simp [codesOk, this])
      go_wp2
      go_ret
      exact ⟨ret_bool (by rw [HA.out]; simp; omega), Below.refl _ _⟩

theorem runTime_any (p : Run) (w : World) (h1 : 0 ≤ p.card.k.start) (h2 : p.card.k.start ≤ 36000) (h3 : -1 ≤ p.card.k.finish) (h4 : p.card.k.finish ≤ 36000) :
    Calls Try.prog 68 #[p.val] w fun e w' => e = .returned (.int .i64 (rtime p.k)) ∧ Below w.heap.size w w' := by
  obtain ⟨h0, b1, b2, ⟨⟨r0, r1, r2, sp⟩, A, n, c⟩⟩ := p
  simp only at h1 h2 h3 h4
  have hW : Below w.heap.size w (w.alloc (.cells #[.int .i64 h0, .bool b1, .bool b2, .int .i64 r0, .int .i64 r1, .int .i64 r2, .slice A n c] 53)) := below_alloc (Below.refl _ _) _
  show Calls Try.prog 68 #[.agg #[.int .i64 h0, .bool b1, .bool b2, .int .i64 r0, .int .i64 r1, .int .i64 r2, .slice A n c]] w fun e w' => e = .returned (.int .i64 (r2 - r1)) ∧ Below w.heap.size w w'
  go_enter Try.func68, Try.ntmps68
  go_wp2
  go_ret
  exact ⟨rfl, hW⟩

theorem l15Time_any (p : Run) (w : World) (h1 : 0 ≤ p.card.k.start) (h2 : p.card.k.start ≤ 36000) (h3 : -1 ≤ p.card.k.finish) (h4 : p.card.k.finish ≤ 36000) :
    Calls Try.prog 67 #[p.val] w fun e w' => e = .returned (.int .i64 (rtime p.k)) ∧ Below w.heap.size w w' := by
  obtain ⟨h0, b1, b2, ⟨⟨r0, r1, r2, sp⟩, A, n, c⟩⟩ := p
  simp only at h1 h2 h3 h4
  have hW : Below w.heap.size w (w.alloc (.cells #[.int .i64 h0, .bool b1, .bool b2, .int .i64 r0, .int .i64 r1, .int .i64 r2, .slice A n c] 53)) := below_alloc (Below.refl _ _) _
  show Calls Try.prog 67 #[.agg #[.int .i64 h0, .bool b1, .bool b2, .int .i64 r0, .int .i64 r1, .int .i64 r2, .slice A n c]] w fun e w' => e = .returned (.int .i64 (r2 - r1)) ∧ Below w.heap.size w w'
  go_enter Try.func67, Try.ntmps67
  go_wp2
  go_ret
  exact ⟨rfl, hW⟩

set_option maxRecDepth 100000 in
set_option maxHeartbeats 4000000 in
theorem statusOf_any (p : Run) (cs : List Int) (v : Value) (limit : Int) (w : World) (h : p.card.In w) (hs : Sl (Flat ints) 1 w v cs) (hn : cs.length ≤ 1048577) (hok : runOk p.k = true) :
    Calls Try.prog 65 #[p.val, v, .int .i64 limit] w fun e w' => e = .returned (.int .i64 (stV p.k cs limit)) ∧ Below w.heap.size w w' := by
  obtain ⟨h0, h1, h2, ⟨⟨r0, r1, r2, sp⟩, A, n, c⟩⟩ := p
  simp only at h
  have hW : Below w.heap.size w (w.alloc (.cells #[.int .i64 h0, .bool h1, .bool h2, .int .i64 r0, .int .i64 r1, .int .i64 r2, .slice A n c] 53)) := below_alloc (Below.refl _ _) _
  show Calls Try.prog 65 #[.agg #[.int .i64 h0, .bool h1, .bool h2, .int .i64 r0, .int .i64 r1, .int .i64 r2, .slice A n c], v, .int .i64 limit] w fun e w' => e = .returned (.int .i64 (stV ⟨h0, h1, h2, ⟨r0, r1, r2, sp⟩⟩ cs limit)) ∧ Below w.heap.size w w'
  cases h1 with
  | false =>
    clear h hs
    go_enter Try.func65, Try.ntmps65
    go_wp2
    go_ret
    exact ⟨ret_int (by simp [stV]), hW⟩
  | true =>
  cases h2 with
  | true =>
    clear h hs
    go_enter Try.func65, Try.ntmps65
    go_wp2
    go_ret
    exact ⟨ret_int (by simp [stV]), hW⟩
  | false =>
  have hco : cardOk ⟨r0, r1, r2, sp⟩ = true := by simp only [runOk, Run.k, Bool.and_eq_true, if_true] at hok; exact hok.2
  have hst := cardOk_start hco
  have hfi := cardOk_finish hco
  simp only at hst hfi
  obtain ⟨hst1, hst2⟩ := hst
  by_cases hf : r2 = -1
  · subst hf
    clear h hs hok hco hfi
    go_enter Try.func65, Try.ntmps65
    go_wp2
    go_ret
    exact ⟨ret_int (by simp [stV]), hW⟩
  have hf' : (r2 == -1) = false := by simpa using hf
  have hfi2 : r1 ≤ r2 ∧ r2 ≤ 36000 := by rcases hfi with h | h; exact absurd h hf; exact h
  obtain ⟨hf1, hf2⟩ := hfi2
  have HF := Lib.hid hf
  have HIN := Lib.hid (h.below hW)
  have HS := Lib.hid (hs.below (Flat.keeps _) hW)
  have hrn := Run.rangeNew w ⟨h0, true, false, ⟨⟨r0, r1, r2, sp⟩, A, n, c⟩⟩ 53
  have hcr := Run.cardRange hrn
  simp only [Nat.zero_add] at hcr
  have HRN := Lib.hid hrn
  have HW := Lib.hid hW
  have hcn := Run.cellsNew w ⟨h0, true, false, ⟨⟨r0, r1, r2, sp⟩, A, n, c⟩⟩ 53
  simp only at hcn
  have HCN := Lib.hid hcn
  clear h hs hok hco hfi hf hrn hW hcn
  go_enter Try.func65, Try.ntmps65
  go_wp2_with ((with_reducible refine at_load_ 51 ?_); refine Card.loadImpl rfl _ rfl w.heap.size 3 rfl ⟨⟨r0, r1, r2, sp⟩, A, n, c⟩ hcr ?_)
  refine (missingCodes_any ⟨⟨r0, r1, r2, sp⟩, A, n, c⟩ cs _ _ HIN.out HS.out hn).mono ?_
  rintro e w1 ⟨m, rfl, row, hb1⟩
  have hr1 := rangeAt_below HRN.out hb1
  simp only at row
  obtain ⟨D, dc, rfl, hdc, hdcm⟩ := row.parts
  simp only [List.length_map] at hdc ⊢
  have HB1 := Lib.hid (step_ HW.out (Nat.le_refl _) hb1)
  obtain ⟨q, hq⟩ : ∃ q, q = (missL sp cs).length := ⟨_, rfl⟩
  have HQ := Lib.hid hq
  rw [← hq] at hdc ⊢
  clear row hq hcr hb1
  by_cases hq0 : 0 < q
  · go_wp2
    go_ret
    exact ⟨ret_int (by have h1 := HQ.out; have h2 := HF.out; simp only [stV]; rw [if_neg (by simp), if_neg (by simp), if_neg h2, if_pos (by omega)]), HB1.out⟩
  · obtain rfl : q = 0 := by omega
    clear hq0
    have HT := Lib.hid (show rtime (Run.k ⟨h0, true, false, ⟨⟨r0, r1, r2, sp⟩, A, n, c⟩⟩) = r2 - r1 from rfl)
    by_cases hl : limit < r2 - r1
    all_goals
      go_wp2_with (first
        | ((with_reducible refine at_load_ 53 ?_); refine Run.loadImpl rfl _ rfl w.heap.size 0 rfl ⟨h0, true, false, ⟨⟨r0, r1, r2, sp⟩, A, n, c⟩⟩ hr1 ?_)
        | (go_at_call 68; refine (runTime_any ⟨h0, true, false, ⟨⟨r0, r1, r2, sp⟩, A, n, c⟩⟩ _ hst1 hst2 (by show -1 ≤ r2; omega) hf2).mono ?_; rintro e w2 ⟨rfl, hb2⟩; rw [HT.out]))
      go_ret
      exact ⟨ret_int (by have h1 := HQ.out; have h2 := HF.out; simp only [stV]; rw [if_neg (by simp), if_neg (by simp), if_neg h2, if_neg (by omega)]; first | rw [if_pos (by omega)] | rw [if_neg (by omega)]), step_ HB1.out (Nat.le_refl _) hb2⟩

set_option maxRecDepth 100000 in
set_option maxHeartbeats 4000000 in
theorem l15Status_any (p : Run) (cs : List Int) (v : Value) (limit : Int) (w : World) (h : p.card.In w) (hs : Sl (Flat ints) 1 w v cs) (hn : cs.length ≤ 1048577) (hok : runOk p.k = true) :
    Calls Try.prog 63 #[p.val, v, .int .i64 limit] w fun e w' => e = .returned (.int .i64 (stV p.k cs limit)) ∧ Below w.heap.size w w' := by
  obtain ⟨h0, h1, h2, ⟨⟨r0, r1, r2, sp⟩, A, n, c⟩⟩ := p
  simp only at h
  have hW : Below w.heap.size w (w.alloc (.cells #[.int .i64 h0, .bool h1, .bool h2, .int .i64 r0, .int .i64 r1, .int .i64 r2, .slice A n c] 53)) := below_alloc (Below.refl _ _) _
  show Calls Try.prog 63 #[.agg #[.int .i64 h0, .bool h1, .bool h2, .int .i64 r0, .int .i64 r1, .int .i64 r2, .slice A n c], v, .int .i64 limit] w fun e w' => e = .returned (.int .i64 (stV ⟨h0, h1, h2, ⟨r0, r1, r2, sp⟩⟩ cs limit)) ∧ Below w.heap.size w w'
  cases h1 with
  | false =>
    clear h hs
    go_enter Try.func63, Try.ntmps63
    go_wp2
    go_ret
    exact ⟨ret_int (by simp [stV]), hW⟩
  | true =>
  cases h2 with
  | true =>
    clear h hs
    go_enter Try.func63, Try.ntmps63
    go_wp2
    go_ret
    exact ⟨ret_int (by simp [stV]), hW⟩
  | false =>
  have hco : cardOk ⟨r0, r1, r2, sp⟩ = true := by simp only [runOk, Run.k, Bool.and_eq_true, if_true] at hok; exact hok.2
  have hst := cardOk_start hco
  have hfi := cardOk_finish hco
  simp only at hst hfi
  obtain ⟨hst1, hst2⟩ := hst
  by_cases hf : r2 = -1
  · subst hf
    clear h hs hok hco hfi
    go_enter Try.func63, Try.ntmps63
    go_wp2
    go_ret
    exact ⟨ret_int (by simp [stV]), hW⟩
  have hf' : (r2 == -1) = false := by simpa using hf
  have hfi2 : r1 ≤ r2 ∧ r2 ≤ 36000 := by rcases hfi with h | h; exact absurd h hf; exact h
  obtain ⟨hf1, hf2⟩ := hfi2
  have HF := Lib.hid hf
  have HIN := Lib.hid (h.below hW)
  have HS := Lib.hid (hs.below (Flat.keeps _) hW)
  have hrn := Run.rangeNew w ⟨h0, true, false, ⟨⟨r0, r1, r2, sp⟩, A, n, c⟩⟩ 53
  have hcr := Run.cardRange hrn
  simp only [Nat.zero_add] at hcr
  have HRN := Lib.hid hrn
  have HW := Lib.hid hW
  have hcn := Run.cellsNew w ⟨h0, true, false, ⟨⟨r0, r1, r2, sp⟩, A, n, c⟩⟩ 53
  simp only at hcn
  have HCN := Lib.hid hcn
  clear h hs hok hco hfi hf hrn hW hcn
  go_enter Try.func63, Try.ntmps63
  go_wp2_with ((with_reducible refine at_load_ 51 ?_); refine Card.loadImpl rfl _ rfl w.heap.size 3 rfl ⟨⟨r0, r1, r2, sp⟩, A, n, c⟩ hcr ?_)
  refine (l12Missing_any ⟨⟨r0, r1, r2, sp⟩, A, n, c⟩ cs _ _ HIN.out HS.out hn).mono ?_
  rintro e w1 ⟨m, rfl, row, hb1⟩
  have hr1 := rangeAt_below HRN.out hb1
  simp only at row
  obtain ⟨D, dc, rfl, hdc, hdcm⟩ := row.parts
  simp only [List.length_map] at hdc ⊢
  have HB1 := Lib.hid (step_ HW.out (Nat.le_refl _) hb1)
  obtain ⟨q, hq⟩ : ∃ q, q = (missL sp cs).length := ⟨_, rfl⟩
  have HQ := Lib.hid hq
  rw [← hq] at hdc ⊢
  clear row hq hcr hb1
  by_cases hq0 : 0 < q
  · go_wp2
    go_ret
    exact ⟨ret_int (by have h1 := HQ.out; have h2 := HF.out; simp only [stV]; rw [if_neg (by simp), if_neg (by simp), if_neg h2, if_pos (by omega)]), HB1.out⟩
  · obtain rfl : q = 0 := by omega
    clear hq0
    have HT := Lib.hid (show rtime (Run.k ⟨h0, true, false, ⟨⟨r0, r1, r2, sp⟩, A, n, c⟩⟩) = r2 - r1 from rfl)
    by_cases hl : limit < r2 - r1
    all_goals
      go_wp2_with (first
        | ((with_reducible refine at_load_ 53 ?_); refine Run.loadImpl rfl _ rfl w.heap.size 0 rfl ⟨h0, true, false, ⟨⟨r0, r1, r2, sp⟩, A, n, c⟩⟩ hr1 ?_)
        | (go_at_call 67; refine (l15Time_any ⟨h0, true, false, ⟨⟨r0, r1, r2, sp⟩, A, n, c⟩⟩ _ hst1 hst2 (by show -1 ≤ r2; omega) hf2).mono ?_; rintro e w2 ⟨rfl, hb2⟩; rw [HT.out]))
      go_ret
      exact ⟨ret_int (by have h1 := HQ.out; have h2 := HF.out; simp only [stV]; rw [if_neg (by simp), if_neg (by simp), if_neg h2, if_neg (by omega)]; first | rw [if_pos (by omega)] | rw [if_neg (by omega)]), step_ HB1.out (Nat.le_refl _) hb2⟩

theorem askR_parts {ks : List RunK} {cs : List Int} {limit : Int} (h : askR ks cs limit = true) : goodRs ks = true ∧ codesOk cs = true ∧ 1 ≤ limit ∧ limit ≤ 36000 := by
  simp only [askR, Bool.and_eq_true] at h
  exact ⟨h.1.1, h.1.2, inB_iff.1 h.2⟩
set_option maxHeartbeats 1000000 in
theorem canJudge_any (xs : List Run) (cs : List Int) (limit : Int) (v u : Value) (w : World) (h : RunS w v xs) (hs : Sl (Flat ints) 1 w u cs) :
    Calls Try.prog 64 #[v, u, .int .i64 limit] w fun e w' => e = .returned (.bool (askR (xs.map Run.k) cs limit)) ∧ Below w.heap.size w w' := by
  have HC := Lib.hid (fun W (hW : Below w.heap.size w W) => areCodes_any cs u W (hs.below (Flat.keeps _) hW))
  have HG := Lib.hid (areRuns_any xs v w h)
  obtain ⟨q1, hq1⟩ : ∃ r, goodRs (xs.map Run.k) = r := ⟨_, rfl⟩
  obtain ⟨q2, hq2⟩ : ∃ r, codesOk cs = r := ⟨_, rfl⟩
  obtain ⟨q3, hq3⟩ : ∃ r, inB limit 1 36000 = r := ⟨_, rfl⟩
  rw [hq2] at HC
  rw [hq1] at HG
  have HA := Lib.hid (show askR (xs.map Run.k) cs limit = (q1 && q2 && q3) by simp [askR, hq1, hq2, hq3])
  clear hq1 hq2 h hs
  cases q1 <;> cases q2
  all_goals
    go_enter Try.func64, Try.ntmps64
    go_wp2_with (first
      | (go_at_call 17; refine HG.out.mono ?_; rintro e w1 ⟨rfl, hb1⟩)
      | (go_at_call 105; refine (HC.out _ hb1).mono ?_; rintro e w2 ⟨rfl, hb2⟩)
      | (go_at_call 94; refine (inside_is _ _ _ _ hq3 _).mono ?_; rintro e w' ⟨rfl, rfl⟩))
    go_ret
    first
      | exact ⟨ret_bool (by rw [HA.out]; simp), step_ hb1 (Nat.le_refl _) hb2⟩
      | exact ⟨ret_bool (by rw [HA.out]; simp), hb1⟩
set_option maxHeartbeats 1000000 in
theorem l15Asked_any (xs : List Run) (cs : List Int) (limit : Int) (v u : Value) (w : World) (h : RunS w v xs) (hs : Sl (Flat ints) 1 w u cs) :
    Calls Try.prog 62 #[v, u, .int .i64 limit] w fun e w' => e = .returned (.bool (askR (xs.map Run.k) cs limit)) ∧ Below w.heap.size w w' := by
  have HC := Lib.hid (fun W (hW : Below w.heap.size w W) => l12Codes_any cs u W (hs.below (Flat.keeps _) hW))
  have HG := Lib.hid (l15Good_any xs v w h)
  obtain ⟨q1, hq1⟩ : ∃ r, goodRs (xs.map Run.k) = r := ⟨_, rfl⟩
  obtain ⟨q2, hq2⟩ : ∃ r, codesOk cs = r := ⟨_, rfl⟩
  obtain ⟨q3, hq3⟩ : ∃ r, inB limit 1 36000 = r := ⟨_, rfl⟩
  rw [hq2] at HC
  rw [hq1] at HG
  have HA := Lib.hid (show askR (xs.map Run.k) cs limit = (q1 && q2 && q3) by simp [askR, hq1, hq2, hq3])
  clear hq1 hq2 h hs
  cases q1 <;> cases q2
  all_goals
    go_enter Try.func62, Try.ntmps62
    go_wp2_with (first
      | (go_at_call 52; refine HG.out.mono ?_; rintro e w1 ⟨rfl, hb1⟩)
      | (go_at_call 102; refine (HC.out _ hb1).mono ?_; rintro e w2 ⟨rfl, hb2⟩)
      | (go_at_call 103; refine (l1In_is _ _ _ _ hq3 _).mono ?_; rintro e w' ⟨rfl, rfl⟩))
    go_ret
    first
      | exact ⟨ret_bool (by rw [HA.out]; simp), step_ hb1 (Nat.le_refl _) hb2⟩
      | exact ⟨ret_bool (by rw [HA.out]; simp), hb1⟩

theorem isRn_any (p : Run) (r : Int) (b : Nat) (w : World) (hc : w.cell? ⟨b, 0, none⟩ = some (.int .i64 r)) :
    Calls Try.prog 100 #[p.val, .pointer (some ⟨b, 0, none⟩)] w fun e w' => e = .returned (.bool (isRn r p)) ∧ Below w.heap.size w w' := by
  obtain ⟨h0, h1, h2, ⟨⟨r0, r1, r2, sp⟩, A, n, c⟩⟩ := p
  have hlt := block_lt_of_cell hc
  simp only at hlt
  show Calls Try.prog 100 #[.agg #[.int .i64 h0, .bool h1, .bool h2, .int .i64 r0, .int .i64 r1, .int .i64 r2, .slice A n c], .pointer (some ⟨b, 0, none⟩)] w _
  have hcw : (w.alloc (.cells #[.int .i64 h0, .bool h1, .bool h2, .int .i64 r0, .int .i64 r1, .int .i64 r2, .slice A n c] 53)).cell? ⟨b, 0, none⟩ = some (.int .i64 r) := After.keep hc ⟨_, below_alloc (Below.refl _ _) _⟩
  go_enter Try.func100, Try.ntmps100
  go_wp2
  go_ret
  exact ⟨rfl, by (repeat (first | exact Below.refl _ _ | assumption | refine Below.drew ?_ | refine Below.alloc ?_ (by first | exact Nat.le_refl _ | (simp; done) | (simp; omega)) _))⟩
set_option maxHeartbeats 1000000 in
theorem runIndex_any (xs : List Run) (r : Int) (v : Value) (w : World) (h : RunS w v xs) :
    Calls Try.prog 58 #[v, .int .i64 r] w fun e w' => e = .returned (.int .i64 (idxA (isRn r) xs)) ∧ Below w.heap.size w w' := by
  have hW : Below w.heap.size w (w.alloc (.cells #[.int .i64 r] 3)) := by (repeat (first | exact Below.refl _ _ | assumption | refine Below.drew ?_ | refine Below.alloc ?_ (by first | exact Nat.le_refl _ | (simp; done) | (simp; omega)) _))
  have hc0 : (w.alloc (.cells #[.int .i64 r] 3)).cell? ⟨w.heap.size, 0, none⟩ = some (.int .i64 r) := rangeAt_new w [.int .i64 r] 3 0 _ rfl
  go_enter Try.func58, Try.ntmps58
  go_wp2_with fail
  generalize w.alloc (.cells #[.int .i64 r] 3) = W at hW hc0 ⊢
  refine (indexFunc_100 _ (isRn r) xs v W (h.1.below (Flat.keeps _) hW) (fun s k hk => isRn_any xs[k] r w.heap.size s.w' (After.keep hc0 s))).mono ?_
  rintro e w1 ⟨rfl, hb1⟩
  go_wp2
  go_ret
  exact ⟨rfl, step_ hW (Nat.le_refl _) hb1⟩

set_option maxHeartbeats 1000000 in
theorem l15Find_any (xs : List Run) (r : Int) (v : Value) (w : World) (h : RunS w v xs) :
    Calls Try.prog 56 #[v, .int .i64 r] w fun e w' => e = .returned (.int .i64 (idxA (isRn r) xs)) ∧ Below w.heap.size w w' := by
  obtain ⟨A, c, rfl, hc, hm, hk⟩ := h.1.open_
  go_enter Try.func56, Try.ntmps56
  go_wp2
  go_loopw [5] (fun i wr => ∃ k : Nat, k ≤ xs.length ∧ i = .int .i64 k ∧ Hid (∀ j (h : j < xs.length), j < k → isRn r xs[j] = false) ∧ Below w.heap.size w wr)
    (fun i _ => xs.length - (intOf i).toNat)
  case atStart => exact ⟨0, Nat.zero_le _, rfl, fun j h hj => absurd hj (by omega), Below.refl _ _⟩
  case round =>
    obtain ⟨k, hkl, rfl, HS, hb⟩ := hrel
    by_cases hlt : k < xs.length
    · obtain ⟨b, off, rfl, hat⟩ := flat_at hk (by omega)
      have hcn := (Run.cells (rangeAt_below (hat k hlt) hb)).1
      have HX := Lib.hid (show isRn r xs[k] = (xs[k].runner == r) from rfl)
      obtain ⟨y, hy⟩ : ∃ y, y = xs[k].runner := ⟨_, rfl⟩
      rw [← hy] at hcn HX
      clear hat hk h hy
      by_cases hp : y = r
      · have hp' : (y == r) = true := by simpa using hp
        have HP := Lib.hid (show isRn r xs[k] = true by rw [HX.out]; exact hp')
        clear hp
        go_wp2
        go_ret
        exact ⟨ret_int (idxA_found hlt HP.out HS.out).symm, hb⟩
      · have hp' : (y == r) = false := by simpa using hp
        have HP := Lib.hid (show isRn r xs[k] = false by rw [HX.out]; exact hp')
        clear hp
        go_wp2
        go_roundw
        case rel => exact ⟨k + 1, by omega, by go_num, fun j hj hjk => by
          by_cases e : j < k
          · exact HS.out j hj e
          · obtain rfl : j = k := by omega
            exact HP.out, hb⟩
        case measure => simp [intOf]; omega
    · go_wp2
      go_ret
      obtain rfl : k = xs.length := by omega
      exact ⟨ret_int (idxA_none fun j hj => HS.out j hj hj).symm, hb⟩
theorem findR_none {xs : List Run} {r : Int} : idxA (isRn r) xs = -1 → (xs.map Run.k).find? (fun k => k.runner == r) = none := by
  intro h
  rcases idxA_cases (isRn r) xs with ⟨_, ha⟩ | ⟨k, hk, hi, _⟩
  · rw [List.find?_eq_none]
    intro x hx
    obtain ⟨p, hp, rfl⟩ := List.mem_map.1 hx
    have := ha p hp
    simpa [isRn, Run.k] using this
  · omega
theorem findR_at {xs : List Run} {r : Int} {i : Nat} (hi : i < xs.length) (h : isRn r xs[i] = true) (hb : ∀ j (h : j < xs.length), j < i → isRn r xs[j] = false) : (xs.map Run.k).find? (fun k => k.runner == r) = some xs[i].k := by
  rw [List.find?_eq_some_iff_getElem]
  refine ⟨by simpa [isRn, Run.k] using h, i, by simpa using hi, by simp, fun j hj => ?_⟩
  have := hb j (by omega) hj
  simpa [isRn, Run.k] using this
theorem goodRs_ok {xs : List Run} (h : goodRs (xs.map Run.k) = true) : ∀ p ∈ xs, runOk p.k = true := by
  intro p hp
  obtain ⟨k, hk, rfl⟩ := List.getElem_of_mem hp
  have h1 := ((goodRs_iff.1 h).1 k (by simpa using hk)).1
  simpa using h1
theorem goodRs_len {xs : List Run} (h : goodRs (xs.map Run.k) = true) : xs.length ≤ 10 := by simpa using (goodRs_iff.1 h).2
theorem codesOk_len {cs : List Int} (h : codesOk cs = true) : cs.length ≤ 12 := by simp only [codesOk, Bool.and_eq_true, decide_eq_true_eq] at h; exact h.1
end Go.Proofs.Ytojpklpfnmjikaa
