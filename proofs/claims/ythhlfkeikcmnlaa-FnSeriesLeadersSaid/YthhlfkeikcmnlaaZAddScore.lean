/- The walks of AddScore, of the program and of the reference. No condition. -/
import Derived.Test.YthhlfkeikcmnlaaZAdd
import Derived.Test.YthhlfkeikcmnlaaZInsert
import Derived.Test.YthhlfkeikcmnlaaZAreScores
namespace Go.Proofs.Ythhlfkeikcmnlaa
open Go Go.RowKit

noncomputable def addOk (n m : Int) (xs : List Score) (s : Score) : Bool := goodS n m (addS xs s)
noncomputable def addOut (n m : Int) (xs : List Score) (s : Score) : List Score := if addOk n m xs s = true then addS xs s else []
theorem insert_own {w0 : World} (xs : List Score) (a b c : Int) (v : Value) (i : Nat) (vb : Nat) (w : World) (h : Own w0 33 3 w v ([] ++ xs.map Score.lst)) (hi : i ≤ xs.length) (hl : xs.length ≤ 1048577) (hx : LitAt w vb 33 [.int .i64 a, .int .i64 b, .int .i64 c]) (hvb : v.ownBlock ≠ some vb) :
    Calls Try.prog 88 #[v, .int .i64 i, .slice (some ⟨vb, 0, none⟩) 1 1] w fun e w' => ∃ r, e = .returned r ∧ Own w0 33 3 w' r ((insAt xs i ⟨a, b, c⟩).map Score.lst) ∧ w.grownBy w' v.ownBlock :=
  (insert_any xs ⟨a, b, c⟩ v i vb w0.heap.size w h.1 hi hl hx hvb h.2.size).mono fun _ _ ⟨r, he, hr, hg⟩ => ⟨r, he, ⟨hr, h.2.grown hg h.2.size (fun q hq => (h.1.lt q hq).1)⟩, hg⟩
set_option maxRecDepth 100000 in
set_option maxHeartbeats 4000000 in
theorem withScore_any (n m : Int) (xs : List Score) (s : Score) (v : Value) (w : World) (h : Sl (Flat Score.lst) 3 w v xs) (hn : xs.length ≤ 1048576) :
    Calls Try.prog 58 #[.int .i64 n, .int .i64 m, v, s.val] w fun e w' => ∃ r, e = .returned (.tuple #[r, .bool (addOk n m xs s)]) ∧ Row w.heap.size 33 3 w' r ((addOut n m xs s).map Score.lst) ∧ Below w.heap.size w w' := by
  obtain ⟨A, c, rfl, hc, hm, hk⟩ := h.open_
  obtain ⟨sr, sc, sp⟩ := s
  show Calls Try.prog 58 #[.int .i64 n, .int .i64 m, .slice A xs.length c, .agg #[.int .i64 sr, .int .i64 sc, .int .i64 sp]] w _
  have hcs := Score.cellsNew w ⟨sr, sc, sp⟩ 33
  have hnew : LitAt (w.alloc (.cells #[.int .i64 sr, .int .i64 sc, .int .i64 sp] 33)) w.heap.size 33 (Score.lst ⟨sr, sc, sp⟩) := LitAt.new w _ _ _ rfl
  simp only at hcs
  go_enter Try.func58, Try.ntmps58
  go_upto_block 0 with fail
  have hW : Below w.heap.size w (w.alloc (.cells #[.int .i64 sr, .int .i64 sc, .int .i64 sp] 33)) := by (repeat (first | exact Below.refl _ _ | assumption | refine Below.drew ?_ | refine Below.alloc ?_ (by first | exact Nat.le_refl _ | (simp; done) | (simp; omega)) _))
  have hWs : (w.alloc (.cells #[.int .i64 sr, .int .i64 sc, .int .i64 sp] 33)).heap.size = w.heap.size + 1 := by simp
  generalize w.alloc (.cells #[.int .i64 sr, .int .i64 sc, .int .i64 sp] 33) = W at hcs hW hWs hnew ⊢
  go_cut [10] (fun i wx => ∃ k : Nat, k = addAt xs ⟨sr, sc, sp⟩ ∧ k ≤ xs.length ∧ i = .int .i64 k ∧ Below W.heap.size W wx)
  case first =>
    go_wp2_with fail
    go_loopw [10] (fun i wr => ∃ k : Nat, k ≤ xs.length ∧ i = .int .i64 k ∧ Hid (∀ j (h : j < xs.length), j < k → cmpS xs[j] ⟨sr, sc, sp⟩ < 0) ∧ Below W.heap.size W wr)
      (fun i _ => xs.length - (intOf i).toNat)
    case atStart => exact ⟨0, Nat.zero_le _, rfl, fun j h hj => absurd hj (by omega), Below.refl _ _⟩
    case round =>
      obtain ⟨k, hkl, rfl, HS, hb⟩ := hrel
      by_cases hlt : k < xs.length
      · obtain ⟨b, off, rfl, hat⟩ := flat_at hk (by omega)
        have hr := rangeAt_below (rangeAt_below (hat k hlt) hW) hb
        have hr0 : wr.rangeAt w.heap.size 0 (Score.lst ⟨sr, sc, sp⟩) := (hnew.below hb).range
        obtain ⟨r, hr4⟩ : ∃ r, cmpS xs[k] ⟨sr, sc, sp⟩ = r := ⟨_, rfl⟩
        have HR4 := Lib.hid hr4
        have HC := Lib.hid (fun W' => compareScores_is xs[k] ⟨sr, sc, sp⟩ r hr4 W')
        clear hr4
        go_wp2
        refine region_after (by kernel_rfl) (by kernel_rfl) ?_
        repeat (any_goals (first | go_big_quiet_step (((go_at_call 55; exact Calls.after (v := .int .i64 r) _ (HC.out _)))) | (refine Score.qloadImpl rfl _ rfl b (off + k * 3) rfl xs[k] hr ?_) | (refine Score.qloadImpl rfl _ rfl w.heap.size 0 rfl ⟨sr, sc, sp⟩ hr0 ?_) | quiet_step (((go_at_call 55; exact Calls.after (v := .int .i64 r) _ (HC.out _)))) | (refine wpQuiet_step (fun K hK => ?_); go_simp; split <;> (refine hK _ ?_; clear hK K))))
        all_goals (refine wpQuiet_nil ?_; intro s)
        all_goals go_wp2
        all_goals first
          | (go_meet
             have hb2 := step_ hb (Nat.le_refl _) s.hb
             exact ⟨k, (addAt_is (fun j h hj => HS.out j h hj) (fun _ => by rw [HR4.out]; omega) hkl).symm, hkl, rfl, hb2⟩)
          | (go_roundw
             case rel => exact ⟨k + 1, by omega, by go_num, fun j h hj => by
               by_cases e : j < k
               · exact HS.out j h e
               · obtain rfl : j = k := by omega
                 rw [HR4.out]; omega, step_ hb (Nat.le_refl _) s.hb⟩
             case measure => simp [intOf]; omega)
      · go_wp2
        refine region_after (by kernel_rfl) (by kernel_rfl) ?_
        repeat (any_goals (first | go_big_quiet_step (fail)  | quiet_step (fail) | (refine wpQuiet_step (fun K hK => ?_); go_simp; split <;> (refine hK _ ?_; clear hK K))))
        all_goals (refine wpQuiet_nil ?_; intro s)
        all_goals go_wp2
        go_meet
        exact ⟨k, (addAt_is (fun j h hj => HS.out j h hj) (fun h => absurd h hlt) hkl).symm, hkl, rfl, step_ hb (Nat.le_refl _) s.hb⟩
  case rest =>
    obtain ⟨k, hka, hkl, rfl, hb⟩ := hcut
    have HKA := Lib.hid hka
    clear hka
    have hB := hW.trans (hb.mono (by omega))
    have hoA : Old w 3 A xs.length (xs.map Score.lst) := Src.of_sl h Score.lst_len Score.one
    have hoA := hoA.now hB
    have hkeep : ∀ W', Below wc.heap.size wc W' → W'.cell? ⟨w.heap.size, 0, none⟩ = some (.int .i64 sr) ∧ W'.cell? ⟨w.heap.size, 1, none⟩ = some (.int .i64 sc) ∧ W'.cell? ⟨w.heap.size, 2, none⟩ = some (.int .i64 sp) := fun W' hW' => hcs ⟨W', step_ hb (Nat.le_refl _) hW'⟩
    have hcb := hkeep wc (Below.refl _ _)
    have HKEEP := Lib.hid hkeep
    have HL1 := Lib.hid (show ([] : List (List Value)).length + xs.length ≤ 2147483648 by simp; omega)
    have HL2 := Lib.hid (show xs.length ≤ 1048577 by omega)
    have HL3 := Lib.hid hkl
    clear hcs hk h hkeep hnew
    go_wp2_with fail
    go_region_held3 (fun w' => w'.cell? ⟨w.heap.size, 0, none⟩ = some (.int .i64 sr) ∧ w'.cell? ⟨w.heap.size, 1, none⟩ = some (.int .i64 sc) ∧ w'.cell? ⟨w.heap.size, 2, none⟩ = some (.int .i64 sp))
      (exact HKEEP.out _ (by (repeat (first | (with_reducible exact Below.refl _ _) | (with_reducible exact Own.b own3) | (with_reducible exact Own.b own2) | (with_reducible exact Own.b own1) | (with_reducible refine Below.drew ?_) | (with_reducible refine below_alloc ?_ _)))))
      (first
        | (refine Ty.stepAppendOld (w0 := wc) tyScore (by rfl) _ _ (by rfl) (.slice (some ⟨_, 0, none⟩) 0 0) [] (by rfl) (by (repeat (first | (with_reducible assumption) | (with_reducible exact Own.nil (by (repeat (first | (with_reducible exact Below.refl _ _) | (with_reducible exact Own.b own3) | (with_reducible exact Own.b own2) | (with_reducible exact Own.b own1) | (with_reducible refine Below.drew ?_) | (with_reducible refine below_alloc ?_ _)))) _ (by simp)) | (with_reducible refine Own.drew ?_) | (with_reducible refine Own.alloc ?_ _)))) A _ _ _ (by rfl) hoA HL1.out ?_; intro v1 w1 own1 hg1 hat1)
        | (go_at_call 88; refine (insert_own (w0 := wc) xs sr sc sp v1 k _ _ ?_ HL3.out HL2.out ?_ ?_).mono ?_; (focus ((repeat (first | (with_reducible assumption) | (with_reducible exact Own.nil (by (repeat (first | (with_reducible exact Below.refl _ _) | (with_reducible exact Own.b own3) | (with_reducible exact Own.b own2) | (with_reducible exact Own.b own1) | (with_reducible refine Below.drew ?_) | (with_reducible refine below_alloc ?_ _)))) _ (by simp)) | (with_reducible refine Own.drew ?_) | (with_reducible refine Own.alloc ?_ _))))); (focus ((repeat (first | (with_reducible assumption) | (with_reducible exact LitAt.new _ _ _ _ (by simp)) | (with_reducible refine LitAt.drew ?_) | (with_reducible refine LitAt.alloc ?_ _) | (with_reducible refine LitAt.grown ?_ (by with_reducible assumption) (by simp [Value.ownBlock])))))); (focus ((first | exact Own.ne_new own1 _ (by simp) | (rcases hat1 with h | h <;> rw [h] <;> simp [Value.ownBlock] <;> omega)))); rintro e w2 ⟨v2, rfl, own2, hg2⟩))
    all_goals
      have hB2 := step_ hB (Nat.le_refl _) own2.2
      have hrow := own2.1.mono hB.size
      have hS : insAt xs k ⟨sr, sc, sp⟩ = addS xs ⟨sr, sc, sp⟩ := by rw [HKA.out]; rfl
      rw [hS] at hrow
      clear hS own2 own1
      obtain ⟨b2, hb2'⟩ : ∃ b, goodS n m (addS xs ⟨sr, sc, sp⟩) = b := ⟨_, rfl⟩
      have HB2 := Lib.hid hb2'
      clear hb2'
      go_wp2_with fail
      refine (areScores_any n m (addS xs ⟨sr, sc, sp⟩) _ _ (Sl.of_flat hrow)).mono ?_
      rintro e w4 ⟨rfl, hb4⟩
      have hB4 := step_ hB2 (Nat.le_refl _) hb4
      rw [HB2.out]
      cases b2 with
      | true =>
        go_wp2
        go_ret2
        have e1 : addOk n m xs ⟨sr, sc, sp⟩ = true := HB2.out
        have e2 : addOut n m xs ⟨sr, sc, sp⟩ = addS xs ⟨sr, sc, sp⟩ := by unfold addOut; rw [if_pos e1]
        rw [e1, e2]
        exact ⟨_, rfl, hrow.below hb4, hB4⟩
      | false =>
        go_wp2
        go_ret2
        have e1 : addOk n m xs ⟨sr, sc, sp⟩ = false := HB2.out
        have e2 : addOut n m xs ⟨sr, sc, sp⟩ = [] := by unfold addOut; rw [e1]; rfl
        rw [e1, e2]
        exact ⟨_, rfl, Row.nil _ _ _ _, hB4⟩

noncomputable def asOk (n m : Int) (xs : List Score) (s : Score) : Bool := goodS n m xs && goodS n m (addS xs s)
noncomputable def asOut (n m : Int) (xs : List Score) (s : Score) : List Score := if asOk n m xs s = true then addS xs s else []
theorem addS_len (xs : List Score) (s : Score) : (addS xs s).length = xs.length + 1 := by
  have := addAt_le xs s
  simp [addS, insAt]; omega
theorem asOut_len (n m : Int) (xs : List Score) (s : Score) : (asOut n m xs s).length ≤ 40 := by
  unfold asOut
  split
  · rename_i h
    simp only [asOk, Bool.and_eq_true] at h
    exact (goodS_iff.1 h.2).2.2.2
  · simp

set_option maxHeartbeats 1000000 in
theorem impl_AddScore (n m : Int) (x : List Score) (v : Value) (s : Score) (w : World) (_ : I64 n) (_ : I64 m) (h : Sl (Flat Score.lst) 3 w v x) (_ : ∀ p ∈ x, Score.ok p) (_ : Score.ok s) (hn : x.length ≤ 1048576) :
    Calls Try.prog 21 #[.int .i64 n, .int .i64 m, v, s.val] w fun e w' => ∃ r, e = .returned (.tuple #[r, .bool (asOk n m x s)]) ∧ Row w.heap.size 33 3 w' r ((asOut n m x s).map Score.lst) ∧ Below w.heap.size w w' := by
  obtain ⟨a, b, c⟩ := s
  show Calls Try.prog 21 #[.int .i64 n, .int .i64 m, v, .agg #[.int .i64 a, .int .i64 b, .int .i64 c]] w _
  have hcs := Score.cellsNew w ⟨a, b, c⟩ 33
  have hW : Below w.heap.size w (w.alloc (.cells #[.int .i64 a, .int .i64 b, .int .i64 c] 33)) := by (repeat (first | exact Below.refl _ _ | assumption | refine Below.drew ?_ | refine Below.alloc ?_ (by first | exact Nat.le_refl _ | (simp; done) | (simp; omega)) _))
  simp only at hcs
  by_cases hg : goodS n m x = true
  · have hok : asOk n m x ⟨a, b, c⟩ = addOk n m x ⟨a, b, c⟩ := by simp [asOk, addOk, hg]
    have hout : asOut n m x ⟨a, b, c⟩ = addOut n m x ⟨a, b, c⟩ := by simp [asOut, addOut, hok]
    have HG := Lib.hid hg
    rw [hok, hout]
    clear hg hok hout
    go_enter Try.func21, Try.ntmps21
    go_wp2_with fail
    generalize w.alloc (.cells #[.int .i64 a, .int .i64 b, .int .i64 c] 33) = W at hcs hW ⊢
    refine (areScores_any n m x _ _ (h.below (Flat.keeps _) hW)).mono ?_
    rintro e w1 ⟨rfl, hb1⟩
    rw [HG.out]
    have hB1 := step_ hW (Nat.le_refl _) hb1
    have hc1 := hcs ⟨w1, hb1⟩
    simp only at hc1
    clear hcs
    go_wp2_with fail
    refine (withScore_any n m x ⟨a, b, c⟩ _ _ (h.below (Flat.keeps _) hB1) hn).mono ?_
    rintro e w2 ⟨r, rfl, row, hb2⟩
    go_wp2
    go_ret2
    exact ⟨_, rfl, row.mono hB1.size, step_ hB1 (Nat.le_refl _) hb2⟩
  · have hg' : goodS n m x = false := by simpa using hg
    have hok : asOk n m x ⟨a, b, c⟩ = false := by simp [asOk, hg']
    have hout : asOut n m x ⟨a, b, c⟩ = [] := by simp [asOut, hok]
    have HG := Lib.hid hg'
    rw [hok, hout]
    clear hg hg' hok hout
    go_enter Try.func21, Try.ntmps21
    go_wp2_with fail
    refine (areScores_any n m x _ _ (h.below (Flat.keeps _) hW)).mono ?_
    rintro e w1 ⟨rfl, hb1⟩
    rw [HG.out]
    go_wp2
    go_ret2
    exact ⟨_, rfl, Row.nil _ _ _ _, step_ hW (Nat.le_refl _) hb1⟩

set_option maxHeartbeats 1000000 in
theorem spec_AddScore (n m : Int) (x : List Score) (v : Value) (s : Score) (w : World) (_ : I64 n) (_ : I64 m) (h : Sl (Flat Score.lst) 3 w v x) (_ : ∀ p ∈ x, Score.ok p) (_ : Score.ok s) (hn : x.length ≤ 1048576) :
    Calls Try.prog 19 #[.int .i64 n, .int .i64 m, v, s.val] w fun e w' => ∃ r, e = .returned (.tuple #[r, .bool (asOk n m x s)]) ∧ Row w.heap.size 33 3 w' r ((asOut n m x s).map Score.lst) ∧ Below w.heap.size w w' := by
  obtain ⟨a, b, c⟩ := s
  show Calls Try.prog 19 #[.int .i64 n, .int .i64 m, v, .agg #[.int .i64 a, .int .i64 b, .int .i64 c]] w _
  have hcs := Score.cellsNew w ⟨a, b, c⟩ 33
  have hW : Below w.heap.size w (w.alloc (.cells #[.int .i64 a, .int .i64 b, .int .i64 c] 33)) := by (repeat (first | exact Below.refl _ _ | assumption | refine Below.drew ?_ | refine Below.alloc ?_ (by first | exact Nat.le_refl _ | (simp; done) | (simp; omega)) _))
  simp only at hcs
  obtain ⟨g1, hg1⟩ : ∃ q, goodS n m x = q := ⟨_, rfl⟩
  obtain ⟨g2, hg2⟩ : ∃ q, goodS n m (addS x ⟨a, b, c⟩) = q := ⟨_, rfl⟩
  have hok : asOk n m x ⟨a, b, c⟩ = (g1 && g2) := by simp [asOk, hg1, hg2]
  have HOUT := Lib.hid (show asOut n m x ⟨a, b, c⟩ = if (g1 && g2) = true then addS x ⟨a, b, c⟩ else [] by simp [asOut, hok])
  rw [hok]
  have HG1 := Lib.hid hg1
  have HG2 := Lib.hid hg2
  clear hg1 hg2 hok
  go_enter Try.func19, Try.ntmps19
  go_wp2_with fail
  generalize w.alloc (.cells #[.int .i64 a, .int .i64 b, .int .i64 c] 33) = W at hcs hW ⊢
  refine (l20Good_any n m x _ _ (h.below (Flat.keeps _) hW)).mono ?_
  rintro e w1 ⟨rfl, hb1⟩
  rw [HG1.out]
  have hB1 := step_ hW (Nat.le_refl _) hb1
  have hc1 := hcs ⟨w1, hb1⟩
  simp only at hc1
  cases g1 with
  | false =>
    go_wp2
    go_ret2
    refine ⟨_, rfl, ?_, ?_⟩; rw [HOUT.out]; exact Row.lit_nil w1 _ _ hB1.size; exact hB1.alloc hB1.size _
  | true =>
    go_wp2_with fail
    refine (l20Add_any x ⟨a, b, c⟩ _ _ (h.below (Flat.keeps _) hB1) hn).mono ?_
    rintro e w2 ⟨r2, rfl, row2, hb2⟩
    have hB2 := step_ hB1 (Nat.le_refl _) hb2
    go_wp2_with fail
    refine (l20Good_any n m (addS x ⟨a, b, c⟩) _ _ (Sl.of_flat row2)).mono ?_
    rintro e w3 ⟨rfl, hb3⟩
    rw [HG2.out]
    have hB3 := step_ hB2 (Nat.le_refl _) hb3
    cases g2 with
    | false =>
      go_wp2
      go_ret2
      refine ⟨_, rfl, ?_, ?_⟩; rw [HOUT.out]; exact Row.lit_nil w3 _ _ hB3.size; exact hB3.alloc hB3.size _
    | true =>
      have hc3 := hcs ⟨w3, step_ (step_ hb1 (Nat.le_refl _) hb2) (Nat.le_refl _) hb3⟩
      simp only at hc3
      clear hcs
      go_wp2_with fail
      refine (l20Add_any x ⟨a, b, c⟩ _ _ (h.below (Flat.keeps _) hB3) hn).mono ?_
      rintro e w4 ⟨r4, rfl, row4, hb4⟩
      go_wp2
      go_ret2
      refine ⟨_, rfl, ?_, ?_⟩; rw [HOUT.out]; exact row4.mono hB3.size; exact step_ hB3 (Nat.le_refl _) hb4
end Go.Proofs.Ythhlfkeikcmnlaa
