/- The walk of the reference's list with one more score. No condition. -/
import Derived.Test.YthhlfkeikcmnlaaZSerQ
import Derived.Test.YthhlfkeikcmnlaaZLibSqz
import Derived.Deep.DeepCutAuto
import Derived.Deep.CutBlock
namespace Go.Proofs.Ythhlfkeikcmnlaa
open Go Go.RowKit

theorem addAt_is {xs : List Score} {s : Score} {k : Nat} (h1 : ∀ j (h : j < xs.length), j < k → cmpS xs[j] s < 0) (h2 : ∀ h : k < xs.length, ¬ cmpS xs[k] s < 0) (hk : k ≤ xs.length) : addAt xs s = k := by
  unfold addAt
  have e : xs.takeWhile (fun t => decide (cmpS t s < 0)) = xs.take k := by
    induction xs generalizing k with
    | nil => simp
    | cons x xs ih =>
      cases k with
      | zero =>
        have := h2 (by simp)
        simp only [List.getElem_cons_zero] at this
        simp [this]
      | succ k =>
        have h0 := h1 0 (by simp) (by omega)
        simp only [List.getElem_cons_zero] at h0
        rw [List.takeWhile_cons_of_pos (by simpa using h0), List.take_succ_cons]
        congr 1
        exact ih (fun j hj hjk => by have := h1 (j + 1) (by simp; omega) (by omega); simpa using this) (fun h => by have := h2 (by simp; omega); simpa using this) (by simp at hk; omega)
  rw [e]
  simp; omega
theorem cmpS_lt' {p q : Score} : cmpS p q < 0 ↔ p.runner < q.runner ∨ (p.runner = q.runner ∧ p.race < q.race) := by
  unfold cmpS orI cmpI
  grind
set_option maxRecDepth 100000 in
set_option maxHeartbeats 2000000 in
theorem l20Add_any (xs : List Score) (s : Score) (v : Value) (w : World) (h : Sl (Flat Score.lst) 3 w v xs) (hn : xs.length ≤ 1048576) :
    Calls Try.prog 57 #[v, s.val] w fun e w' => ∃ r, e = .returned r ∧ Row w.heap.size 33 3 w' r ((addS xs s).map Score.lst) ∧ Below w.heap.size w w' := by
  obtain ⟨A, c, rfl, hc, hm, hk⟩ := h.open_
  obtain ⟨sr, sc, sp⟩ := s
  show Calls Try.prog 57 #[.slice A xs.length c, .agg #[.int .i64 sr, .int .i64 sc, .int .i64 sp]] w _
  have hcs := Score.cellsNew w ⟨sr, sc, sp⟩ 33
  simp only at hcs
  go_enter Try.func57, Try.ntmps57
  go_upto_block 0 with fail
  have hW : Below w.heap.size w (w.alloc (.cells #[.int .i64 sr, .int .i64 sc, .int .i64 sp] 33)) := by (repeat (first | exact Below.refl _ _ | assumption | refine Below.drew ?_ | refine Below.alloc ?_ (by first | exact Nat.le_refl _ | (simp; done) | (simp; omega)) _))
  have hWs : (w.alloc (.cells #[.int .i64 sr, .int .i64 sc, .int .i64 sp] 33)).heap.size = w.heap.size + 1 := by simp
  generalize w.alloc (.cells #[.int .i64 sr, .int .i64 sc, .int .i64 sp] 33) = W at hcs hW hWs ⊢
  go_cut [5] (fun i wx => ∃ k : Nat, k = addAt xs ⟨sr, sc, sp⟩ ∧ k ≤ xs.length ∧ i = .int .i64 k ∧ Below W.heap.size W wx)
  case first =>
    go_wp2_with fail
    go_loopw [5] (fun i wr => ∃ k : Nat, k ≤ xs.length ∧ i = .int .i64 k ∧ Hid (∀ j (h : j < xs.length), j < k → cmpS xs[j] ⟨sr, sc, sp⟩ < 0) ∧ Below W.heap.size W wr)
      (fun i _ => xs.length - (intOf i).toNat)
    case atStart => exact ⟨0, Nat.zero_le _, rfl, fun j h hj => absurd hj (by omega), Below.refl _ _⟩
    case round =>
      obtain ⟨k, hkl, rfl, HS, hb⟩ := hrel
      have hc1 := hcs ⟨wr, hb⟩
      simp only at hc1
      have hd1 := After.keep hc1.1
      have hd2 := After.keep hc1.2.1
      by_cases hlt : k < xs.length
      · obtain ⟨b, off, rfl, hat⟩ := flat_at hk (by omega)
        have hr := Score.cellsOld (rangeAt_below (rangeAt_below (hat k hlt) hW) hb)
        have HI := Lib.hid (@cmpS_lt' xs[k] ⟨sr, sc, sp⟩)
        go_wp2
        refine region_after (by kernel_rfl) (by kernel_rfl) ?_
        repeat (any_goals (first | go_big_quiet_step (fail)  | quiet_step (fail) | (refine wpQuiet_step (fun K hK => ?_); go_simp; split <;> (refine hK _ ?_; clear hK K))))
        all_goals (refine wpQuiet_nil ?_; intro s)
        all_goals go_wp2
        all_goals first
          | (go_meet
             have hb2 := step_ hb (Nat.le_refl _) s.hb
             exact ⟨k, (addAt_is (fun j h hj => HS.out j h hj) (fun _ => by rw [HI.out]; omega) hkl).symm, hkl, rfl, hb2⟩)
          | (go_roundw
             case rel => exact ⟨k + 1, by omega, by go_num, fun j h hj => by
               by_cases e : j < k
               · exact HS.out j h e
               · obtain rfl : j = k := by omega
                 rw [HI.out]; omega, step_ hb (Nat.le_refl _) s.hb⟩
             case measure => simp [intOf]; omega)
      · go_wp2
        refine region_after (by kernel_rfl) (by kernel_rfl) ?_
        repeat (any_goals (first | go_big_quiet_step (fail)  | quiet_step (fail) | (refine wpQuiet_step (fun K hK => ?_); go_simp; split <;> (refine hK _ ?_; clear hK K))))
        all_goals (refine wpQuiet_nil ?_; intro s)
        all_goals go_wp2
        go_meet
        exact ⟨k, (addAt_is (fun j h hj => HS.out j h hj) (fun h => absurd h hlt) hkl).symm, hkl, rfl, step_ hb (Nat.le_refl _) s.hb⟩
  case rest =>
    obtain ⟨k, hka, hkl, rfl, hb⟩ := hcut
    have HKA := Lib.hid hka
    clear hka
    have hB := hW.trans (hb.mono (by omega))
    have hoA : Old w 3 A xs.length (xs.map Score.lst) := Src.of_sl h Score.lst_len Score.one
    go_wp2_with fail
    have hoA := hoA.now hB
    have hoT := hoA.take hkl
    have hkeep : ∀ W', Below wc.heap.size wc W' → W'.cell? ⟨w.heap.size, 0, none⟩ = some (.int .i64 sr) ∧ W'.cell? ⟨w.heap.size, 1, none⟩ = some (.int .i64 sc) ∧ W'.cell? ⟨w.heap.size, 2, none⟩ = some (.int .i64 sp) := fun W' hW' => hcs ⟨W', step_ hb (Nat.le_refl _) hW'⟩
    have hcb := hkeep wc (Below.refl _ _)
    have hlt1 : w.heap.size < wc.heap.size := by have := hb.size; omega
    have HKL := Lib.hid hkl
    have HL1 := Lib.hid (show ([] : List (List Value)).length + k ≤ 2147483648 by simp; omega)
    have HL2 := Lib.hid (show (([] : List (List Value)) ++ List.take k (List.map Score.lst xs)).length + 1 ≤ 2147483648 by rw [List.nil_append, List.length_take, List.length_map, Nat.min_eq_left hkl]; omega)
    have HL3 := Lib.hid (show ((([] : List (List Value)) ++ List.take k (List.map Score.lst xs)) ++ [[Value.int .i64 sr, .int .i64 sc, .int .i64 sp]]).length + (xs.length - k) ≤ 2147483648 by rw [List.nil_append, List.length_append, List.length_take, List.length_map, Nat.min_eq_left hkl]; simp; omega)
    have HKEEP := Lib.hid hkeep
    have hk0 : (0 : Int) ≤ (k : Int) := by omega
    have hk1 : (k : Int) ≤ (xs.length : Int) := by omega
    have hk2 : (k : Int) ≤ (c : Int) := by omega
    clear hcs hk h hkeep
    have hoD := Src.cut hoA HKL.out hc
    go_region_held3 (fun w' => w'.cell? ⟨w.heap.size, 0, none⟩ = some (.int .i64 sr) ∧ w'.cell? ⟨w.heap.size, 1, none⟩ = some (.int .i64 sc) ∧ w'.cell? ⟨w.heap.size, 2, none⟩ = some (.int .i64 sp))
      (exact HKEEP.out _ (by (repeat (first | (with_reducible exact Below.refl _ _) | (with_reducible exact Own.b own3) | (with_reducible exact Own.b own2) | (with_reducible exact Own.b own1) | (with_reducible refine Below.drew ?_) | (with_reducible refine below_alloc ?_ _)))))
      (first
        | (refine Ty.stepAppendOld (w0 := wc) tyScore (by rfl) _ _ (by rfl) (.slice (some ⟨_, 0, none⟩) 0 0) [] (by rfl) (by (repeat (first | (with_reducible assumption) | (with_reducible exact Own.nil (by (repeat (first | (with_reducible exact Below.refl _ _) | (with_reducible exact Own.b own3) | (with_reducible exact Own.b own2) | (with_reducible exact Own.b own1) | (with_reducible refine Below.drew ?_) | (with_reducible refine below_alloc ?_ _)))) _ (by simp)) | (with_reducible refine Own.drew ?_) | (with_reducible refine Own.alloc ?_ _)))) A k _ _ (by rfl) hoT HL1.out ?_; intro v1 w1 own1 hg1 hat1)
        | (refine Ty.stepAppend (w0 := wc) tyScore (by rfl) _ _ (by rfl) v1 _ (by rfl) (by (repeat (first | (with_reducible assumption) | (with_reducible exact Own.nil (by (repeat (first | (with_reducible exact Below.refl _ _) | (with_reducible exact Own.b own3) | (with_reducible exact Own.b own2) | (with_reducible exact Own.b own1) | (with_reducible refine Below.drew ?_) | (with_reducible refine below_alloc ?_ _)))) _ (by simp)) | (with_reducible refine Own.drew ?_) | (with_reducible refine Own.alloc ?_ _)))) _ 1 1 [[.int .i64 sr, .int .i64 sc, .int .i64 sp]] (by rfl) (by (repeat (first | (with_reducible assumption) | (with_reducible exact Src.lit _ _ _ _ (by simp) rfl (by simp [Value.oneCell'])) | (with_reducible refine Src.drew ?_) | (with_reducible refine Src.alloc ?_ _) | (with_reducible refine Src.grown ?_ (by with_reducible assumption) (by simp [Value.ownBlock]))))) HL2.out ?_; intro v2 w2 own2 hg2 hat2)
        | (refine Ty.stepAppendOld (w0 := wc) tyScore (by rfl) _ _ (by rfl) v2 _ (by rfl) (by (repeat (first | (with_reducible assumption) | (with_reducible exact Own.nil (by (repeat (first | (with_reducible exact Below.refl _ _) | (with_reducible exact Own.b own3) | (with_reducible exact Own.b own2) | (with_reducible exact Own.b own1) | (with_reducible refine Below.drew ?_) | (with_reducible refine below_alloc ?_ _)))) _ (by simp)) | (with_reducible refine Own.drew ?_) | (with_reducible refine Own.alloc ?_ _)))) _ _ _ _ (by rfl) hoD HL3.out ?_; intro v3 w3 own3 hg3 hat3))
    all_goals
      have hfin := own3.1.mono hB.size
      have hfin2 : Row w.heap.size 33 3 w3 v3 ((addS xs ⟨sr, sc, sp⟩).map Score.lst) := by simpa [addS, insAt, ← HKA.out, Score.lst] using hfin
      have hfin3 := step_ hB (Nat.le_refl _) own3.2
      clear hfin own3 own2 own1
      go_wp2
      all_goals (go_ret; exact ⟨_, rfl, hfin2, hfin3⟩)
end Go.Proofs.Ythhlfkeikcmnlaa
