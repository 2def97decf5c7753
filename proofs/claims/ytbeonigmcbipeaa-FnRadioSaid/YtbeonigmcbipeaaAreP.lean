/- The walks of the tests on passings. No condition. -/
import Derived.Test.YtbeonigmcbipeaaPasM
namespace Go.Proofs.Ytbeonigmcbipeaa
open Go Go.RowKit

def AscIn (lo hi : Int) (l : List Int) : Prop := ∀ k (h : k < l.length), (lo ≤ l[k] ∧ l[k] ≤ hi) ∧ (0 < k → l[k - 1] < l[k])
noncomputable def ascB (lo hi : Int) (l : List Int) : Bool := @decide (AscIn lo hi l) (Classical.propDecidable _)
theorem ascB_iff {lo hi : Int} {l : List Int} : ascB lo hi l = true ↔ AscIn lo hi l := by simp [ascB]
theorem ascB_true {lo hi : Int} {l : List Int} (h : AscIn lo hi l) : ascB lo hi l = true := ascB_iff.2 h
theorem ascB_false {lo hi : Int} {l : List Int} (h : ¬ AscIn lo hi l) : ascB lo hi l = false := by simp [ascB, h]
def GoodP1 (p : PK) : Prop := (1 ≤ p.runner ∧ p.runner ≤ 99) ∧ p.splits.length ≤ 4 ∧ AscIn 1 36000 p.splits
def StandP (ks : List PK) (k : Nat) (h : k < ks.length) : Prop := GoodP1 ks[k] ∧ (0 < k → ks[k - 1].runner < ks[k].runner)
def GoodPs (ks : List PK) : Prop := (∀ k (h : k < ks.length), StandP ks k h) ∧ ks.length ≤ 10
noncomputable def goodP1 (p : PK) : Bool := @decide (GoodP1 p) (Classical.propDecidable _)
noncomputable def goodPs (ks : List PK) : Bool := @decide (GoodPs ks) (Classical.propDecidable _)
theorem goodPs_iff {ks : List PK} : goodPs ks = true ↔ GoodPs ks := by simp [goodPs]
theorem goodPs_true {ks : List PK} (h : GoodPs ks) : goodPs ks = true := goodPs_iff.2 h
theorem goodPs_false {ks : List PK} (h : ¬ GoodPs ks) : goodPs ks = false := by simp [goodPs, h]
theorem goodP1_iff {p : PK} : goodP1 p = true ↔ GoodP1 p := by simp [goodP1]
theorem goodP1_true {p : PK} (h : GoodP1 p) : goodP1 p = true := goodP1_iff.2 h
theorem goodP1_false {p : PK} (h : ¬ GoodP1 p) : goodP1 p = false := by simp [goodP1, h]
theorem inside_is (n lo hi : Int) (r : Bool) (hr : inB n lo hi = r) (w : World) :
    Calls Try.prog 53 #[.int .i64 n, .int .i64 lo, .int .i64 hi] w fun e w' => e = .returned (.bool r) ∧ w = w' := by subst hr; exact inside_any n lo hi w
theorem l1In_is (n lo hi : Int) (r : Bool) (hr : inB n lo hi = r) (w : World) :
    Calls Try.prog 77 #[.int .i64 n, .int .i64 lo, .int .i64 hi] w fun e w' => e = .returned (.bool r) ∧ w = w' := by subst hr; exact l1In_any n lo hi w

set_option maxHeartbeats 1000000 in
theorem ascending_any (l : List Int) (lo hi : Int) (v : Value) (w : World) (h : Sl (Flat ints) 1 w v l) :
    Calls Try.prog 54 #[v, .int .i64 lo, .int .i64 hi] w fun e w' => e = .returned (.bool (ascB lo hi l)) ∧ w = w' := by
  obtain ⟨A, c, rfl, hc, hm, hk⟩ := h.open_
  clear h
  go_enter Try.func54, Try.ntmps54
  go_wp2
  go_loop [11] (fun i => ∃ k : Nat, k ≤ l.length ∧ i = .int .i64 k ∧ Hid (∀ j (h : j < l.length), j < k → (lo ≤ l[j] ∧ l[j] ≤ hi) ∧ (0 < j → l[j - 1] < l[j])))
    (fun i => l.length - (intOf i).toNat)
  case atStart => exact ⟨0, Nat.zero_le _, rfl, fun j h hj => absurd hj (by omega)⟩
  case round =>
    obtain ⟨k, hkl, rfl, HS⟩ := hrel
    by_cases hlt : k < l.length
    · obtain ⟨b, off, rfl, hat⟩ := flat_at hk (by omega)
      have hr := int_at (hat k hlt)
      rw [Nat.mul_one] at hr
      have HX := Lib.hid (show ¬ ((lo ≤ l[k] ∧ l[k] ≤ hi) ∧ (0 < k → l[k - 1] < l[k])) → ¬ AscIn lo hi l from fun hn hA => hn (hA k hlt))
      have HY := Lib.hid (show ((lo ≤ l[k] ∧ l[k] ≤ hi) ∧ (0 < k → l[k - 1] < l[k])) → ∀ j (h : j < l.length), j < k + 1 → (lo ≤ l[j] ∧ l[j] ≤ hi) ∧ (0 < j → l[j - 1] < l[j]) from fun hn j hj hjk => by
        by_cases e : j < k
        · exact HS.out j hj e
        · obtain rfl : j = k := by omega
          exact hn)
      by_cases h0 : 0 < k
      · have hlp : k - 1 < l.length := by omega
        have hr2 := int_at (hat (k - 1) hlp)
        rw [Nat.mul_one] at hr2
        obtain ⟨x, hx⟩ : ∃ x, x = l[k] := ⟨_, rfl⟩
        obtain ⟨y, hy⟩ : ∃ y, y = l[k - 1] := ⟨_, rfl⟩
        rw [← hx] at hr HX HY
        rw [← hy] at hr2 HX HY
        clear hat hk hx hy
        by_cases hin : inB x lo hi = true
        · have HIN := Lib.hid (inB_iff.1 hin)
          go_wp2_with (go_at_call 53; refine (inside_is _ _ _ _ hin _).mono ?_; rintro e w' ⟨rfl, rfl⟩)
          all_goals first
            | (go_ret; exact ⟨ret_bool (ascB_false (HX.out (fun hh => absurd (hh.2 h0) (by omega)))).symm, rfl⟩)
            | (go_round
               case rel => exact ⟨k + 1, by omega, by go_num, HY.out ⟨HIN.out, fun _ => by omega⟩⟩
               case measure => simp [intOf]; omega)
        · have hin' : inB x lo hi = false := by simpa using hin
          have HIN := Lib.hid (show ¬ (lo ≤ x ∧ x ≤ hi) from fun hh => hin (inB_iff.2 hh))
          clear hin
          go_wp2_with (go_at_call 53; refine (inside_is _ _ _ _ hin' _).mono ?_; rintro e w' ⟨rfl, rfl⟩)
          go_ret
          exact ⟨ret_bool (ascB_false (HX.out (fun hh => HIN.out hh.1))).symm, rfl⟩
      · obtain rfl : k = 0 := by omega
        obtain ⟨x, hx⟩ : ∃ x, x = l[0] := ⟨_, rfl⟩
        rw [← hx] at hr HX HY
        have hr : w.cell? ⟨b, off, none⟩ = some (.int .i64 x) := by simpa using hr
        clear hat hk hx h0
        by_cases hin : inB x lo hi = true
        · have HIN := Lib.hid (inB_iff.1 hin)
          go_wp2_with (go_at_call 53; refine (inside_is _ _ _ _ hin _).mono ?_; rintro e w' ⟨rfl, rfl⟩)
          go_round
          case rel => exact ⟨1, by omega, by go_num, HY.out ⟨HIN.out, fun h => absurd h (by omega)⟩⟩
          case measure => simp [intOf]; omega
        · have hin' : inB x lo hi = false := by simpa using hin
          have HIN := Lib.hid (show ¬ (lo ≤ x ∧ x ≤ hi) from fun hh => hin (inB_iff.2 hh))
          clear hin
          go_wp2_with (go_at_call 53; refine (inside_is _ _ _ _ hin' _).mono ?_; rintro e w' ⟨rfl, rfl⟩)
          go_ret
          exact ⟨ret_bool (ascB_false (HX.out (fun hh => HIN.out hh.1))).symm, rfl⟩
    · go_wp2
      go_ret
      obtain rfl : k = l.length := by omega
      exact ⟨ret_bool (ascB_true (fun j hj => HS.out j hj hj)).symm, rfl⟩

set_option maxHeartbeats 2000000 in
theorem arePassings_any (xs : List Pas) (v : Value) (w : World) (h : PasS w v xs) :
    Calls Try.prog 17 #[v] w fun e w' => e = .returned (.bool (goodPs (xs.map Pas.k))) ∧ Below w.heap.size w w' := by
  have HI := Lib.hid h.2
  obtain ⟨A, c, rfl, hc, hm, hk⟩ := h.1.open_
  clear h
  go_enter Try.func17, Try.ntmps17
  go_wp2
  go_loopw [7] (fun i wr => ∃ k : Nat, k ≤ xs.length ∧ i = .int .i64 k ∧ Hid (∀ j (h : j < (xs.map Pas.k).length), j < k → StandP (xs.map Pas.k) j h) ∧ Below w.heap.size w wr)
    (fun i _ => xs.length - (intOf i).toNat)
  case atStart => exact ⟨0, Nat.zero_le _, rfl, fun j h hj => absurd hj (by omega), Below.refl _ _⟩
  case round =>
    obtain ⟨k, hkl, rfl, HS, hb⟩ := hrel
    by_cases hlt : k < xs.length
    · obtain ⟨b, off, rfl, hat⟩ := flat_at hk (by omega)
      have hlk : k < (xs.map Pas.k).length := by simpa using hlt
      have hr := rangeAt_below (hat k hlt) hb
      have hin := (HI.out _ (List.getElem_mem hlt)).below hb
      have HX := Lib.hid (show ¬ StandP (xs.map Pas.k) k hlk → ¬ GoodPs (xs.map Pas.k) from fun hn hA => hn (hA.1 k hlk))
      have HY := Lib.hid (show StandP (xs.map Pas.k) k hlk → ∀ j (h : j < (xs.map Pas.k).length), j < k + 1 → StandP (xs.map Pas.k) j h from fun hn j hj hjk => by
        by_cases e : j < k
        · exact HS.out j hj e
        · obtain rfl : j = k := by omega
          exact hn)
      have HST := Lib.hid (show StandP (xs.map Pas.k) k hlk ↔ GoodP1 xs[k].k ∧ (0 < k → (xs[k - 1]'(by omega)).k.runner < xs[k].k.runner) by simp [StandP])
      have hpr : ∀ h0 : 0 < k, wr.rangeAt b (off + (k - 1) * 2) (xs[k - 1]'(by omega)).lst := fun h0 => rangeAt_below (hat (k - 1) (by omega)) hb
      obtain ⟨p, hp⟩ : ∃ p, p = xs[k] := ⟨_, rfl⟩
      rw [← hp] at hr hin HST
      have hpl := hin.len
      have HA := Lib.hid (fun (s : After (wr.alloc (.cells #[.int .i64 p.k.runner, .slice p.a p.n p.c] 49))) => ascending_any p.k.splits 1 36000 p.sv s.w' ((Pas.In.below hin (below_alloc (Below.refl _ _) _)).below s.hb))
      have hcn := Pas.cellsNew wr p 49
      have HG1 := Lib.hid (show GoodP1 p.k ↔ (1 ≤ p.k.runner ∧ p.k.runner ≤ 99) ∧ p.n ≤ 4 ∧ ascB 1 36000 p.k.splits = true by rw [ascB_iff, hpl]; rfl)
      obtain ⟨q, hq⟩ : ∃ q, ascB 1 36000 p.k.splits = q := ⟨_, rfl⟩
      rw [hq] at HA HG1
      clear hat hk hp hq hin hpl
      obtain ⟨⟨pr, ps⟩, pa, pn, pc⟩ := p
      simp only at hcn HG1 HST HA
      obtain ⟨r, hr1⟩ : ∃ r, inB pr 1 99 = r := ⟨_, rfl⟩
      have HR := Lib.hid (show r = true ↔ (1 ≤ pr ∧ pr ≤ 99) by rw [← hr1]; exact inB_iff)
      have HB0 := Lib.hid hb
      by_cases h0 : 0 < k
      · have hpr := hpr h0
        obtain ⟨y, hy⟩ : ∃ y, y = xs[k - 1] := ⟨_, rfl⟩
        rw [← hy] at hpr HST
        have hyc := Pas.cellsOld (rangeAt_below hpr (below_alloc (Below.refl _ _) (.cells #[.int .i64 pr, .slice pa pn pc] 49)))
        clear hpr hy
        go_wp2_with ((with_reducible refine at_load_ 49 ?_); refine Pas.loadImpl rfl _ rfl b (off + k * 2) rfl _ hr ?_)
        refine region_after (by kernel_rfl) (by kernel_rfl) ?_
        repeat (any_goals (first | go_big_quiet_step (((first | (go_at_call 53; exact Calls.after_same (v := .bool r) _ (inside_is _ _ _ _ hr1 _)) | (go_at_call 54; exact Calls.after_same (v := .bool q) _ (HA.out _)))))  | quiet_step (((first | (go_at_call 53; exact Calls.after_same (v := .bool r) _ (inside_is _ _ _ _ hr1 _)) | (go_at_call 54; exact Calls.after_same (v := .bool q) _ (HA.out _))))) | (refine wpQuiet_step (fun K hK => ?_); go_simp; split <;> (refine hK _ ?_; clear hK K))))
        all_goals (refine wpQuiet_nil ?_; intro s)
        all_goals go_wp2
        all_goals first
          | (go_ret
             refine ⟨ret_bool (goodPs_false (HX.out (fun hh => ?_))).symm, step_ HB0.out (Nat.le_refl _) (step_ (below_alloc (Below.refl _ _) _) (Nat.le_refl _) s.hb)⟩
             have hh := HST.out.1 hh
             have h1 := HG1.out.1 hh.1
             have h3 := HR.out
             have h2 := hh.2 h0
             grind)
          | (have hB2 := step_ HB0.out (Nat.le_refl _) (step_ (below_alloc (Below.refl _ _) (.cells #[.int .i64 pr, .slice pa pn pc] 49)) (Nat.le_refl _) s.hb)
             have hst : StandP (xs.map Pas.k) k hlk := by
               have h3 := HR.out
               refine HST.out.2 ⟨HG1.out.2 ?_, fun h0 => ?_⟩
               · grind
               · omega
             have HY2 := Lib.hid (HY.out hst)
             clear hst
             go_roundw
             case rel => exact ⟨k + 1, by omega, by go_num, HY2.out, hB2⟩
             case measure => simp [intOf]; omega)
      · obtain rfl : k = 0 := by omega
        clear hpr h0
        go_wp2_with ((with_reducible refine at_load_ 49 ?_); refine Pas.loadImpl rfl _ rfl b (off + 0 * 2) rfl _ hr ?_)
        refine region_after (by kernel_rfl) (by kernel_rfl) ?_
        repeat (any_goals (first | go_big_quiet_step (((first | (go_at_call 53; exact Calls.after_same (v := .bool r) _ (inside_is _ _ _ _ hr1 _)) | (go_at_call 54; exact Calls.after_same (v := .bool q) _ (HA.out _)))))  | quiet_step (((first | (go_at_call 53; exact Calls.after_same (v := .bool r) _ (inside_is _ _ _ _ hr1 _)) | (go_at_call 54; exact Calls.after_same (v := .bool q) _ (HA.out _))))) | (refine wpQuiet_step (fun K hK => ?_); go_simp; split <;> (refine hK _ ?_; clear hK K))))
        all_goals (refine wpQuiet_nil ?_; intro s)
        all_goals go_wp2
        all_goals first
          | (go_ret
             refine ⟨ret_bool (goodPs_false (HX.out (fun hh => ?_))).symm, step_ HB0.out (Nat.le_refl _) (step_ (below_alloc (Below.refl _ _) _) (Nat.le_refl _) s.hb)⟩
             have hh := HST.out.1 hh
             have h1 := HG1.out.1 hh.1
             have h3 := HR.out
             grind)
          | (have hB2 := step_ HB0.out (Nat.le_refl _) (step_ (below_alloc (Below.refl _ _) (.cells #[.int .i64 pr, .slice pa pn pc] 49)) (Nat.le_refl _) s.hb)
             have hst : StandP (xs.map Pas.k) 0 hlk := by
               have h3 := HR.out
               refine HST.out.2 ⟨HG1.out.2 ?_, fun h0 => ?_⟩
               · grind
               · omega
             have HY2 := Lib.hid (HY.out hst)
             clear hst
             go_roundw
             case rel => exact ⟨0 + 1, by omega, by go_num, HY2.out, hB2⟩
             case measure => simp [intOf]; omega)
    · go_wp2
      go_ret
      obtain rfl : k = xs.length := by omega
      refine ⟨ret_bool ?_, hb⟩
      by_cases h10 : xs.length ≤ 10
      · rw [goodPs_true ⟨fun j hj => HS.out j hj (by simpa using hj), by simpa using h10⟩]; simp; omega
      · rw [goodPs_false (fun hg => h10 (by simpa using hg.2))]; simp; omega
end Go.Proofs.Ytbeonigmcbipeaa
