/- The walk of slices.Insert of one score into a row of the call's own. No condition. -/
import Derived.Test.YthhlfkeikcmnlaaZLibSqz
import Derived.Test.YthhlfkeikcmnlaaZSerQ
import Derived.Lib.Overlaps
namespace Go.Proofs.Ythhlfkeikcmnlaa
open Go Go.RowKit

theorem insAt_end {α : Type} (xs : List α) (x : α) : insAt xs xs.length x = xs ++ [x] := by simp [insAt]
set_option maxRecDepth 100000 in
set_option maxHeartbeats 4000000 in
theorem insert_any (xs : List Score) (x : Score) (v : Value) (i : Nat) (vb : Nat) (base : Nat) (w : World) (h : Row base 33 3 w v (xs.map Score.lst)) (hi : i ≤ xs.length) (hl : xs.length ≤ 1048577) (hx : LitAt w vb 33 x.lst) (hvb : v.ownBlock ≠ some vb) (hb : base ≤ w.heap.size) :
    Calls Try.prog 88 #[v, .int .i64 i, .slice (some ⟨vb, 0, none⟩) 1 1] w fun e w' => ∃ r, e = .returned r ∧ Row base 33 3 w' r ((insAt xs i x).map Score.lst) ∧ w.grownBy w' v.ownBlock := by
  obtain ⟨x1, x2, x3⟩ := x
  have hsx := hx.src (sz := 3) rfl (Score.one _)
  by_cases hend : i = xs.length
  · subst hend
    obtain ⟨A, c, rfl, hc, hm⟩ := h.parts
    simp only [List.length_map] at hc h hvb ⊢
    have hn1 := Lib.hid (show (xs.map Score.lst).length + 1 ≤ 2147483648 by simp; omega)
    go_enter Try.func88, Try.ntmps88
    go_wp2_with (at_builtin; refine tyScore.append rfl _ _ rfl base (.slice A xs.length c) _ rfl h _ 1 1 [Score.lst ⟨x1, x2, x3⟩] rfl hsx hn1.out hb ?_; intro r w1 row1 hg1 _)
    all_goals (go_ret; exact ⟨_, rfl, by simpa [insAt] using row1, by rcases A with _ | a <;> exact hg1⟩)
  have hlt : i < xs.length := by omega
  obtain ⟨g, cap, rfl, hbg, hg, hcap⟩ := h.form (by simp; omega)
  have hcm : cap ≤ 9223372036854775807 := by
    obtain ⟨_, _, h1, _, h3⟩ := h.parts
    simp only [Value.slice.injEq] at h1
    omega
  simp only [List.length_map] at hcap h hvb ⊢
  have hend' : ((i : Int) == (xs.length : Int)) = false := by simp; omega
  have hgv : g ≠ vb := fun e => hvb (by simp [Value.ownBlock, e])
  clear hvb
  by_cases hroom : cap < xs.length + 1
  · have hroom' : decide ((cap : Int) < (xs.length : Int) + 1) = true := by simp; omega
    have hpre := Row.prefix_ (k := i) h (by simp; omega)
    have hrg : ∀ j (hj : j < ((xs.map Score.lst).drop i).length), w.rangeAt g (i * 3 + j * 3) ((xs.map Score.lst).drop i)[j] := by
      intro j hj
      have := h.range (k := i + j) (by simp at hj ⊢; omega)
      rw [Nat.add_mul] at this
      rw [List.getElem_drop]
      exact this
    have HDL := Lib.hid (show ((xs.map Score.lst).drop i).length = xs.length - i by simp)
    have HDY := Lib.hid (show ∀ y ∈ (xs.map Score.lst).drop i, y.length = 3 ∧ ∀ u ∈ y, u.oneCell' = true by
      intro y hy
      obtain ⟨s, _, rfl⟩ := List.mem_map.1 (List.mem_of_mem_drop hy)
      exact ⟨rfl, s.one⟩)
    have HFIN := Lib.hid (show ∀ (Y : List (List Value)), Y.length = xs.length + 1 → (Y.take i = (xs.map Score.lst).take i) →
        ((Y.take i ++ Score.lst ⟨x1, x2, x3⟩ :: Y.drop (i + 1)).take (i + 1) ++ (xs.map Score.lst).drop i ++ (Y.take i ++ Score.lst ⟨x1, x2, x3⟩ :: Y.drop (i + 1)).drop (i + 1 + (xs.length - i))) = (insAt xs i ⟨x1, x2, x3⟩).map Score.lst by
      intro Y hY hYt
      have h1 : (Y.take i ++ Score.lst ⟨x1, x2, x3⟩ :: Y.drop (i + 1)).take (i + 1) = (xs.map Score.lst).take i ++ [Score.lst ⟨x1, x2, x3⟩] := by
        rw [List.append_cons, List.take_append_of_le_length (by simp; omega), List.take_of_length_le (by simp; omega), hYt]
      have h2 : (Y.take i ++ Score.lst ⟨x1, x2, x3⟩ :: Y.drop (i + 1)).drop (i + 1 + (xs.length - i)) = [] := List.drop_eq_nil_of_le (by simp; omega)
      rw [h1, h2]
      simp [insAt])
    have hns : w.heap.size ≠ g := by omega
    go_enter Try.func88, Try.ntmps88
    go_wp2_with (first
      | (at_builtin; refine Ty.appendZeros tyScore rfl _ _ 3 Try.underlying3 rfl base g i cap _ rfl hpre .i64 _ (xs.length + 1 - i) rfl (by omega) (by simp; omega) (by simp; omega) hb ?_)
      | (at_builtin; fail))
    intro c1 w1 own1 hb1 hlt1
    have e1 : i + (xs.length + 1 - i) = xs.length + 1 := by omega
    rw [e1] at own1 ⊢
    clear hpre hroom hroom' e1
    obtain ⟨Y1, hY1⟩ : ∃ Y, Y = List.take i (List.map Score.lst xs) ++ List.replicate (xs.length + 1 - i) scoreZ := ⟨_, rfl⟩
    rw [← hY1] at own1
    have l1 : Y1.length = xs.length + 1 := by rw [hY1]; simp; omega
    have t1 : Y1.take i = (xs.map Score.lst).take i := by rw [hY1, List.take_append_of_le_length (by simp; omega), List.take_of_length_le (by simp; omega)]
    have hc1 : xs.length + 1 ≤ c1 := by
      obtain ⟨_, _, h1, _, _, h2⟩ := own1.form (by omega)
      simp only [Value.slice.injEq] at h1
      omega
    have hcm1 : c1 ≤ 9223372036854775807 := by
      obtain ⟨_, _, h1, _, h3⟩ := own1.parts
      simp only [Value.slice.injEq] at h1
      omega
    have T1 := Lib.hid t1
    have L1 := Lib.hid l1
    clear hY1 t1 l1
    have hx1 := hx.below hb1
    have hfit1 := Lib.hid (show i + [Score.lst ⟨x1, x2, x3⟩].length ≤ Y1.length by rw [L1.out]; simp; omega)
    have hmin1 := Lib.hid (show [Score.lst ⟨x1, x2, x3⟩].length = Nat.min 1 (xs.length + 1 - i) by show 1 = Nat.min 1 (xs.length + 1 - i); exact (Nat.min_eq_left (by omega)).symm)
    have hsrc1 := Lib.hid (show ∀ j (hj : j < [Score.lst ⟨x1, x2, x3⟩].length), w1.rangeAt vb (0 + j * 3) [Score.lst ⟨x1, x2, x3⟩][j] by
      intro j hj
      obtain rfl : j = 0 := by simpa using hj
      simpa using hx1.range)
    go_wp2_with (first
      | ((with_reducible refine at_copy_ ?_); refine Ty.copy tyScore rfl _ _ 25 rfl base w.heap.size (xs.length + 1) c1 Y1 own1 i _ _ _ rfl (some ⟨vb, 0, none⟩) 1 1 rfl [Score.lst ⟨x1, x2, x3⟩] hmin1.out (fun _ => ⟨rfl, vb, 0, rfl, hsrc1.out⟩) (by simp [Score.lst, Value.oneCell']) hfit1.out ?_)
      | (at_builtin; fail))
    intro w2 own2 gr2
    have L2 := Lib.hid (show (Y1.take i ++ Score.lst ⟨x1, x2, x3⟩ :: Y1.drop (i + 1)).length = xs.length + 1 by have := L1.out; simp; omega)
    have FIN := Lib.hid (HFIN.out Y1 L1.out T1.out)
    try simp only [List.length_cons, List.length_nil, Nat.zero_add, List.append_assoc, List.cons_append, List.nil_append] at own2
    obtain ⟨Y2, hY2⟩ : ∃ Y, Y1.take i ++ Score.lst ⟨x1, x2, x3⟩ :: Y1.drop (i + 1) = Y := ⟨_, rfl⟩
    rw [hY2] at own2 L2 FIN
    clear hY2
    have hsrc2 := Lib.hid (show ∀ j (hj : j < ((xs.map Score.lst).drop i).length), w2.drew.rangeAt g (i * 3 + j * 3) ((xs.map Score.lst).drop i)[j] from fun j hj => rangeAt_below (range_grown_ (rangeAt_below (hrg j hj) hb1) gr2 (fun e => hns (Option.some.inj e))) (Below.drew (Below.refl _ _)))
    have hfit2 := Lib.hid (show i + 1 + ((xs.map Score.lst).drop i).length ≤ Y2.length by rw [L2.out, HDL.out]; omega)
    have hmin2 := Lib.hid (show ((xs.map Score.lst).drop i).length = Nat.min (xs.length - i) (xs.length - i) by rw [HDL.out]; exact (Nat.min_eq_left (by omega)).symm)
    have own2d := own2.drew
    clear hrg
    have hw1 : IntKind.i64.wrap ((i : Int) + 1) = (i : Int) + 1 := by rw [IntKind.wrap_i64]; omega
    have hb1' : (0 : Int) ≤ (i : Int) + 1 := by omega
    have hb3' : (i : Int) + 1 ≤ (xs.length : Int) + 1 := by omega
    have htn' : ((i : Int) + 1).toNat = i + 1 := by omega
    have hb5' : (i : Int) ≤ (xs.length : Int) + 1 := by omega
    have hb6' : (i : Int) ≤ (xs.length : Int) := by omega
    have hb0' : (0 : Int) ≤ (i : Int) := by omega
    have hb2' : ¬ (c1 = i + 1) := by omega
    have hb4' : ¬ (cap = i) := by omega
    go_wp2
    go_region_held3 (fun _ => True) (trivial)
      ((refine Ty.stepCopy tyScore (by rfl) _ _ 25 (by rfl) base w.heap.size (xs.length + 1) c1 Y2 own2d (i + 1) _ _ _ (by rfl) (some ⟨g, i * 3, none⟩) (xs.length - i) _ (by rfl) ((xs.map Score.lst).drop i) hmin2.out (fun _ => ⟨rfl, g, i * 3, rfl, hsrc2.out⟩) HDY.out hfit2.out ?_; intro w3 own3 gr3))
    go_wp2
    go_ret
    refine ⟨_, rfl, ?_, ?_⟩
    · rw [HDL.out, FIN.out] at own3
      exact own3
    · exact grown_old hb1 (grown_trans gr2 ⟨gr3.os, gr3.tape, gr3.output, gr3.size, gr3.block⟩)
  · have hroom' : decide ((cap : Int) < (xs.length : Int) + 1) = false := by simp; omega
    have hroom2 : xs.length + 1 ≤ cap := by omega
    obtain ⟨junk, hex⟩ := h.extend (by simpa using hroom2)
    simp only [List.length_map] at hex
    have LJ := Lib.hid (show (xs.map Score.lst ++ [junk]).length = xs.length + 1 by simp)
    have hrg : ∀ j (hj : j < ((xs.map Score.lst).drop i).length), w.rangeAt g (i * 3 + j * 3) ((xs.map Score.lst).drop i)[j] := by
      intro j hj
      have := h.range (k := i + j) (by simp at hj ⊢; omega)
      rw [Nat.add_mul] at this
      rw [List.getElem_drop]
      exact this
    have HRG := Lib.hid hrg
    have HDL := Lib.hid (show ((xs.map Score.lst).drop i).length = xs.length - i by simp)
    have HDY := Lib.hid (show ∀ y ∈ (xs.map Score.lst).drop i, y.length = 3 ∧ ∀ u ∈ y, u.oneCell' = true by
      intro y hy
      obtain ⟨s, _, rfl⟩ := List.mem_map.1 (List.mem_of_mem_drop hy)
      exact ⟨rfl, s.one⟩)
    have HFIN := Lib.hid (show ∀ (Y : List (List Value)), Y = (xs.map Score.lst ++ [junk]).take (i + 1) ++ (xs.map Score.lst).drop i ++ (xs.map Score.lst ++ [junk]).drop (i + 1 + ((xs.map Score.lst).drop i).length) →
        Y.take i ++ [Score.lst ⟨x1, x2, x3⟩] ++ Y.drop (i + [Score.lst ⟨x1, x2, x3⟩].length) = (insAt xs i ⟨x1, x2, x3⟩).map Score.lst by
      rintro _ rfl
      have h2 : (xs.map Score.lst ++ [junk]).drop (i + 1 + ((xs.map Score.lst).drop i).length) = [] := List.drop_eq_nil_of_le (by simp; omega)
      have h3 : (xs.map Score.lst ++ [junk]).take (i + 1) = (xs.map Score.lst).take (i + 1) := by rw [List.take_append_of_le_length (by simp; omega)]
      rw [h2, h3, List.append_nil]
      have h4 : ((xs.map Score.lst).take (i + 1) ++ (xs.map Score.lst).drop i).take i = (xs.map Score.lst).take i := by rw [List.take_append_of_le_length (by simp; omega), List.take_take, Nat.min_eq_left (by omega)]
      have h5 : ((xs.map Score.lst).take (i + 1) ++ (xs.map Score.lst).drop i).drop (i + [Score.lst ⟨x1, x2, x3⟩].length) = (xs.map Score.lst).drop i := by
        show List.drop (i + 1) _ = _
        rw [List.drop_append_of_le_length (by simp; omega), List.drop_of_length_le (by simp; omega), List.nil_append]
      rw [h4, h5]
      simp [insAt])
    obtain ⟨kB, hsb, hkB⟩ := h.shape (by simp; omega)
    have hov : ∀ lb cb, (callFunc 104 #[.slice (some ⟨vb, 0, none⟩) 1 1, .slice (some ⟨g, (i + 1) * 3, none⟩) lb cb]).run Try.prog w = .ok (.value (.bool false)) w := fun lb cb => by
      rw [run_callFunc_extern Try.func104 (by kernel_rfl) (by kernel_rfl) (by kernel_rfl) (e := Extern.SlicesOverlaps.overlaps #[25, 25] #[4]) (by kernel_rfl),
        Lib.run_overlaps_apart w 25 4 33 Try.underlying25 3 (fun w => by kernel_rfl) ⟨vb, 0, none⟩ ⟨g, (i + 1) * 3, none⟩ 1 1 lb cb (fun e => hgv e.symm) _ _ _ _ hx.shape hsb hkB (hx.frozen 0) (hx.frozen _)]
      rfl
    have HSX := Lib.hid hsx
    have hexd := hex.drew
    have hsrc2 := Lib.hid (show ∀ j (hj : j < ((xs.map Score.lst).drop i).length), w.drew.rangeAt g (i * 3 + j * 3) ((xs.map Score.lst).drop i)[j] from fun j hj => rangeAt_below (HRG.out j hj) (Below.drew (Below.refl _ _)))
    have hfit2 := Lib.hid (show i + 1 + ((xs.map Score.lst).drop i).length ≤ (xs.map Score.lst ++ [junk]).length by rw [LJ.out, HDL.out]; omega)
    have hmin2 := Lib.hid (show ((xs.map Score.lst).drop i).length = Nat.min (xs.length + 1 - i) (xs.length - i) by rw [HDL.out]; show _ = min _ _; omega)
    clear hroom hend hrg hsx
    have hw1 : IntKind.i64.wrap ((i : Int) + 1) = (i : Int) + 1 := by rw [IntKind.wrap_i64]; omega
    have hb1' : (0 : Int) ≤ (i : Int) + 1 := by omega
    have hb3' : (i : Int) + 1 ≤ (xs.length : Int) + 1 := by omega
    have htn' : ((i : Int) + 1).toNat = i + 1 := by omega
    have hb5' : (i : Int) ≤ (xs.length : Int) + 1 := by omega
    have hb6' : (i : Int) ≤ (xs.length : Int) := by omega
    have hb0' : (0 : Int) ≤ (i : Int) := by omega
    have hb2' : ¬ (cap = i + 1) := by omega
    have hb4' : ¬ (cap = i) := by omega
    go_enter Try.func88, Try.ntmps88
    go_wp2_with (simp only [hov])
    go_region_held3 (fun _ => True) (trivial)
      ((refine Ty.stepCopy tyScore (by rfl) _ _ 25 (by rfl) base g (xs.length + 1) cap (xs.map Score.lst ++ [junk]) hexd (i + 1) _ _ _ (by rfl) (some ⟨g, i * 3, none⟩) (xs.length + 1 - i) _ (by rfl) ((xs.map Score.lst).drop i) hmin2.out (fun _ => ⟨rfl, g, i * 3, rfl, hsrc2.out⟩) HDY.out hfit2.out ?_; intro w3 own3 gr3))
    have hx3 := (hx.drew).grown gr3 (fun e => hgv (Option.some.inj e))
    have hmin1 := Lib.hid (show [Score.lst ⟨x1, x2, x3⟩].length = Nat.min 1 (xs.length + 1 - i) by show 1 = Nat.min 1 (xs.length + 1 - i); exact (Nat.min_eq_left (by omega)).symm)
    have hsrc1 := Lib.hid (show ∀ j (hj : j < [Score.lst ⟨x1, x2, x3⟩].length), w3.rangeAt vb (0 + j * 3) [Score.lst ⟨x1, x2, x3⟩][j] by
      intro j hj
      obtain rfl : j = 0 := by simpa using hj
      simpa using hx3.range)
    obtain ⟨Y3, hY3⟩ : ∃ Y, Y = (xs.map Score.lst ++ [junk]).take (i + 1) ++ (xs.map Score.lst).drop i ++ (xs.map Score.lst ++ [junk]).drop (i + 1 + ((xs.map Score.lst).drop i).length) := ⟨_, rfl⟩
    rw [← hY3] at own3
    have hfit1 := Lib.hid (show i + [Score.lst ⟨x1, x2, x3⟩].length ≤ Y3.length by rw [hY3]; simp; omega)
    have FIN := Lib.hid (HFIN.out Y3 hY3)
    clear hY3
    go_wp2_with (first
      | ((with_reducible refine at_copy_ ?_); refine Ty.copy tyScore rfl _ _ 25 rfl base g (xs.length + 1) cap Y3 own3 i _ _ _ rfl (some ⟨vb, 0, none⟩) 1 1 rfl [Score.lst ⟨x1, x2, x3⟩] hmin1.out (fun _ => ⟨rfl, vb, 0, rfl, hsrc1.out⟩) (by simp [Score.lst, Value.oneCell']) hfit1.out ?_)
      | (at_builtin; fail))
    intro w4 own4 gr4
    have FIN' := FIN.out
    simp only [List.length_cons, List.length_nil, Nat.zero_add, List.append_assoc, List.cons_append, List.nil_append] at FIN'
    try simp only [List.append_assoc, List.cons_append, List.nil_append] at own4
    rw [FIN'] at own4
    clear FIN'
    go_wp2
    go_ret
    exact ⟨_, rfl, own4, grown_trans ⟨gr3.os, gr3.tape, gr3.output, gr3.size, gr3.block⟩ gr4⟩
end Go.Proofs.Ythhlfkeikcmnlaa
