/- AddSplit, the reference's. No condition. -/
import Derived.Test.YtbeonigmcbipeaaAddI
import Derived.Test.YtbeonigmcbipeaaArePS
namespace Go.Proofs.Ytbeonigmcbipeaa
open Go Go.RowKit

theorem LitAt.set {e : TypeId} {w : World} {g : Nat} {cs : List Value} (h : LitAt w g e cs) (j : Nat) (u : Value) : LitAt (w.setCell ⟨g, j, none⟩ u) g e (cs.set j u) := by
  unfold LitAt at h ⊢
  rw [heap_setCell_same w g j cs.toArray e u h]
  simp
theorem Row.setNe {base : Nat} {e : TypeId} {sz : Nat} {w : World} {v : Value} {ys : List (List Value)} (h : Row base e sz w v ys) {q o : Nat} (hne : v.ownBlock ≠ some q) (u : Value) : Row base e sz (w.setCell ⟨q, o, none⟩ u) v ys :=
  ⟨h.1, ownsRow_setCell_other h.2 hne _⟩
theorem modify_take {α : Type} (xs : List α) (i : Nat) (f : α → α) {k : Nat} (h : k < xs.length) : (xs.modify i f).take (k + 1) = (xs.modify i f).take k ++ [if i = k then f xs[k] else xs[k]] := by
  rw [List.take_succ_eq_append_getElem (by simpa using h), List.getElem_modify]

set_option maxRecDepth 100000 in
set_option maxHeartbeats 4000000 in
theorem spec_AddSplit (xs : List Pas) (ks : List PK) (v : Value) (r t : Int) (w : World) (hks : xs.map Pas.k = ks) (h : PasS w v xs) (_ : I64 r) (ht : I64 t) :
    Calls Try.prog 21 #[v, .int .i64 r, .int .i64 t] w fun e w' => ∃ v' zs, e = .returned (.tuple #[v', .bool (addB ks r t)]) ∧ zs.map Pas.k = addL ks r t ∧ PasR w.heap.size w' v' zs ∧ Below w.heap.size w w' := by
  subst hks
  have HFI := Lib.hid (l19Find_any xs r v w h)
  have HAS := Lib.hid (fun W (hW : Below w.heap.size w W) => l19Good_any xs v W (h.below hW))
  by_cases hg : goodPs (xs.map Pas.k) = true
  rotate_left
  · have hg' : goodPs (xs.map Pas.k) = false := by simpa using hg
    have hT := addB_bad (r := r) (t := t) hg'
    have HV := Lib.hid (addL_no hT)
    rw [hg'] at HAS
    rw [HV.out, hT]
    clear hg hg' h hT
    go_enter Try.func21, Try.ntmps21
    go_wp2_with (first
      | (go_at_call 56; refine HFI.out.mono ?_; rintro e w1 ⟨rfl, hb1⟩)
      | (go_at_call 51; refine (HAS.out _ hb1).mono ?_; rintro e w2 ⟨rfl, hb2⟩))
    go_ret2
    exact ⟨_, [], rfl, rfl, PasR.lit rfl (Nat.le_trans hb1.size hb2.size), below_alloc (step_ hb1 (Nat.le_refl _) hb2) _⟩
  rw [hg] at HAS
  rcases idxA_cases (isRun r) xs with ⟨hi, hno⟩ | ⟨i, hil, hi, hpi, hbef⟩
  · have hT := addB_none (t := t) hno
    have HV := Lib.hid (addL_no hT)
    rw [HV.out, hT]
    rw [hi] at HFI
    clear hg h hT hi hno
    go_enter Try.func21, Try.ntmps21
    go_wp2_with (first
      | (go_at_call 56; refine HFI.out.mono ?_; rintro e w1 ⟨rfl, hb1⟩)
      | (go_at_call 51; refine (HAS.out _ hb1).mono ?_; rintro e w2 ⟨rfl, hb2⟩))
    go_ret2
    exact ⟨_, [], rfl, rfl, PasR.lit rfl (Nat.le_trans hb1.size hb2.size), below_alloc (step_ hb1 (Nat.le_refl _) hb2) _⟩
  have hgg := goodPs_iff.1 hg
  have hl10 : xs.length ≤ 10 := by simpa using hgg.2
  have HSL := Lib.hid (show ∀ j (h : j < xs.length), xs[j].k.splits.length ≤ 4 from fun j h => by
    have := (hgg.1 j (by simpa using h)).1.2.1
    simpa using this)
  obtain ⟨hfi, hac⟩ := addC_at (t := t) hil hpi hbef
  have HAB := Lib.hid (show addB (xs.map Pas.k) r t = goodPs ((xs.map Pas.k).modify i (addK t)) by simp [addB, hg, hfi, hac])
  have HAL := Lib.hid (fun (hb : addB (xs.map Pas.k) r t = true) => show addL (xs.map Pas.k) r t = (xs.map Pas.k).modify i (addK t) by simp [addL, hb, hac])
  have HNO := Lib.hid (fun (hb : addB (xs.map Pas.k) r t = false) => addL_no hb)
  obtain ⟨q, hq⟩ : ∃ q, addB (xs.map Pas.k) r t = q := ⟨_, rfl⟩
  rw [hq] at HAB HAL HNO ⊢
  have hi0 : ¬ ((i : Int) < 0) := by omega
  rw [hi] at HFI
  have HI := Lib.hid h.2
  obtain ⟨A, c, rfl, hc, hm, hk⟩ := h.1.open_
  clear h hg hgg hfi hac hpi hbef hi hq
  go_enter Try.func21, Try.ntmps21
  go_wp2_with (first
      | (go_at_call 56; refine HFI.out.mono ?_; rintro e w1 ⟨rfl, hb1⟩)
      | (go_at_call 51; refine (HAS.out _ hb1).mono ?_; rintro e w2 ⟨rfl, hb2⟩))
  have hB2 := step_ hb1 (Nat.le_refl _) hb2
  have HR0 := Lib.hid (show PasR w.heap.size (w2.alloc (.cells #[] 49)) (.slice (some ⟨w2.heap.size, 0, none⟩) 0 0) [] from PasR.lit rfl hB2.size)
  have HB0 := Lib.hid (below_alloc hB2 (.cells #[] 49))
  clear hb1 hb2 hB2 HFI
  go_loopw [9, 10] (fun o j wr => ∃ (k : Nat) (zs : List Pas), k ≤ xs.length ∧ j = .int .i64 k ∧ Hid (zs.length = k) ∧ Hid (zs.map Pas.k = ((xs.map Pas.k).modify i (addK t)).take k) ∧ Hid (PasR w.heap.size wr o zs) ∧ Hid (Below w.heap.size w wr))
    (fun _ j _ => xs.length - (intOf j).toNat)
  case atStart => exact ⟨0, [], Nat.zero_le _, rfl, rfl, rfl, HR0.out, HB0.out⟩
  case round =>
    clear HR0 HB0
    obtain ⟨k, zs, hkl, rfl, HZL, HZK, HR, HB⟩ := hrel
    by_cases hlt : k < xs.length
    · obtain ⟨b, off, rfl, hat⟩ := flat_at hk (by omega)
      have HAT := Lib.hid (hat k hlt)
      have hin := (HI.out _ (List.getElem_mem hlt)).below HB.out
      have hpl := HSL.out k hlt
      have HSK := Lib.hid (show ((xs.map Pas.k).modify i (addK t)).take (k + 1) = ((xs.map Pas.k).modify i (addK t)).take k ++ [if i = k then addK t xs[k].k else xs[k].k] by
        rw [modify_take _ _ _ (by simpa using hlt)]; simp)
      have HLL := Lib.hid (show (zs.map Pas.lst).length + 1 ≤ 2147483648 by rw [List.length_map, HZL.out]; omega)
      obtain ⟨x, hx⟩ : ∃ x, x = xs[k] := ⟨_, rfl⟩
      rw [← hx] at HAT hin hpl HSK
      obtain ⟨⟨x0, sp⟩, B, q', f⟩ := x
      have hin : Sl (Flat ints) 1 wr (.slice B q' f) sp := hin
      simp only at hpl
      have hb1d : Below wr.heap.size wr wr.drew := (Below.refl _ _).drew
      have hb1b : Below wr.heap.size wr (wr.alloc (.cells #[.int .i64 0, .slice none 0 0] 49)).drew := (below_alloc (Below.refl _ _) _).drew
      have HCALL := Lib.hid (fun W (hW : Below wr.heap.size wr W) => l1Own_any sp (.slice B q' f) W (hin.below (Flat.keeps _) hW) (by omega))
      have HKEEP := Lib.hid (show ∀ W', Below w.heap.size w W' → W'.cell? ⟨b, off + k * 2, none⟩ = some (.int .i64 x0) ∧ W'.cell? ⟨b, off + k * 2 + 1, none⟩ = some (.slice B q' f) from fun W' hW' => Pas.cells (rangeAt_below HAT.out hW'))
      have HL0 := Lib.hid (show LitAt (wr.alloc (.cells #[.int .i64 0, .slice none 0 0] 49)).drew wr.heap.size 49 [.int .i64 0, .slice none 0 0] from LitAt.new _ _ _ _ rfl)
      have hR0 := HB.out
      have hR1 := hR0.drew
      have hR1b := step_ HB.out (Nat.le_refl _) hb1b
      clear hat hk hx hin
      go_wp2_with fail
      go_region_held3 (fun w' => w'.cell? ⟨b, off + k * 2, none⟩ = some (.int .i64 x0) ∧ w'.cell? ⟨b, off + k * 2 + 1, none⟩ = some (.slice B q' f))
        (exact HKEEP.out _ (by first | (with_reducible exact hR4) | (with_reducible exact hR3) | (with_reducible exact hR2) | (with_reducible exact hR1b) | (with_reducible exact hR1) | (with_reducible exact hR0)))
        (first
          | (go_at_call 60; refine (HCALL.out _ hb1d).mono ?_; rintro e w3 ⟨r3, rfl, row3, hb3⟩; obtain ⟨B', f', rfl, hf', hfm'⟩ := row3.parts; simp only [List.length_map] at row3 hf' ⊢; obtain ⟨m', hm'⟩ : ∃ m', m' = sp.length := ⟨_, rfl⟩; rw [← hm'] at row3 ⊢; have HM' := Lib.hid hm'; clear hm' hf' hfm'; have hB3 := step_ hb1d (Nat.le_refl _) hb3; have hR2 := step_ HB.out (Nat.le_refl _) hB3; have hR3 := below_alloc hR2 (.cells #[.int .i64 0, .slice none 0 0] 49); have hR4 := below_alloc hR2 (.cells #[.int .i64 x0, .slice B' m' f'] 49))
          | (go_at_call 60; refine (HCALL.out _ hb1b).mono ?_; rintro e w3 ⟨r3, rfl, row3, hb3⟩; obtain ⟨B', f', rfl, hf', hfm'⟩ := row3.parts; simp only [List.length_map] at row3 hf' ⊢; obtain ⟨m', hm'⟩ : ∃ m', m' = sp.length := ⟨_, rfl⟩; rw [← hm'] at row3 ⊢; have HM' := Lib.hid hm'; clear hm' hf' hfm'; have hB3 := step_ hb1b (Nat.le_refl _) hb3; have hR2 := step_ HB.out (Nat.le_refl _) hB3; have hR3 := (hR2.setCell (p := ⟨wr.heap.size, 0, none⟩) HB.out.size (.int .i64 x0)).setCell (p := ⟨wr.heap.size, 1, none⟩) HB.out.size (.slice B' m' f'); have HL3 := Lib.hid (HL0.out.below hb3); have hc0 := HL3.out.range 0 _ rfl; have hc1 := HL3.out.range 1 _ rfl; have hf0 := HL3.out.frozen; simp only [Nat.zero_add] at hc0 hc1))
      · have HBX := Lib.hid (show LitAt (w3.alloc (.cells #[.int .i64 x0, .slice B' m' f'] 49)) w3.heap.size 49 [.int .i64 x0, .slice B' m' f'] from LitAt.new _ _ _ _ rfl)
        have HB5 := Lib.hid (below_alloc hB3 (.cells #[.int .i64 x0, .slice B' m' f'] 49))
        have HROW := Lib.hid (Row.alloc (Row.mono (base' := wr.heap.size) row3 (by simp)) (.cells #[.int .i64 x0, .slice B' m' f'] 49))
        have HNEQ := Lib.hid (show (Value.slice B' m' f').ownBlock ≠ some w3.heap.size from fun e => by have := (row3.lt _ e).2; omega)
        have hg5 : wr.heap.size ≤ w3.heap.size := hB3.size
        clear row3 hb3 hR0 hR1 hR1b hR2 hR3 hR4 hB3 hb1d hb1b
        generalize w3.alloc (.cells #[.int .i64 x0, .slice B' m' f'] 49) = w5 at HBX HB5 HROW ⊢
        generalize w3.heap.size = g5 at HBX HNEQ hg5 ⊢
        have hc50 := HBX.out.range 0 _ rfl
        have hc51 := HBX.out.range 1 _ rfl
        have hf5 := HBX.out.frozen
        simp only [Nat.zero_add] at hc50 hc51
        by_cases hik : i = k
        · have hkd : ((k : Int) == (i : Int)) = true := by simp; omega
          have HSK := Lib.hid (HSK.out.trans (by rw [if_pos hik]))
          have HRI := Lib.hid (HROW.out.alloc (.cells #[.int .i64 t] 3))
          have HLZ := Lib.hid (show (sp.map ints).length + 1 ≤ 2147483648 by simp; omega)
          have HSI := Lib.hid (show wr.heap.size ≤ (w5.alloc (.cells #[.int .i64 t] 3)).heap.size from (below_alloc HB5.out (.cells #[.int .i64 t] 3)).size)
          clear hik
          go_wp2_with (first
            | (at_builtin; refine tyInt.append rfl _ _ rfl wr.heap.size _ _ rfl HRI.out _ 1 1 [ints t] rfl (Src.one _ _ (ints t) (ints_one _)) HLZ.out HSI.out ?_; intro o4 w4 hrow4 hg4 hat4; obtain ⟨A4, c4, rfl, hc4, hcm4⟩ := hrow4.parts; simp only [List.length_append, List.length_map, List.length_singleton, ← HM'.out] at hc4 hat4 hrow4 ⊢; have HBX4 := Lib.hid ((HBX.out.alloc (.cells #[.int .i64 t] 3)).grown hg4 HNEQ.out); have hc40 := HBX4.out.range 0 _ rfl; have hc41 := HBX4.out.range 1 _ rfl; have hf4 := HBX4.out.frozen; simp only [Nat.zero_add] at hc40 hc41; have HB6 := Lib.hid (((below_alloc HB5.out (.cells #[.int .i64 t] 3)).grown hg4 HSI.out (fun q hq => (HROW.out.lt q hq).1)).setCell (p := ⟨g5, 1, none⟩) hg5 (.slice A4 (m' + 1) c4)); have HRO := Lib.hid ((HR.out.1.below HB6.out).alloc (.cells #[.int .i64 x0, .slice A4 (m' + 1) c4] 49)); have HSR := Lib.hid (Src.lit (w4.setCell ⟨g5, 1, none⟩ (.slice A4 (m' + 1) c4)) 49 (Pas.lst ⟨⟨x0, sp ++ [t]⟩, A4, m' + 1, c4⟩) w4.heap.size (by simp) rfl (Pas.one _)); have HSZ := Lib.hid (show w.heap.size ≤ ((w4.setCell ⟨g5, 1, none⟩ (.slice A4 (m' + 1) c4)).alloc (.cells #[.int .i64 x0, .slice A4 (m' + 1) c4] 49)).heap.size from Nat.le_trans HB.out.size (below_alloc HB6.out _).size))
            | (at_builtin; refine tyPas.append rfl _ _ rfl w.heap.size _ _ rfl HRO.out _ 1 1 _ rfl HSR.out HLL.out HSZ.out ?_; intro o7 w7 hrow7 hg7 hat7))
          have hg5lt := block_lt_of_cell hc50
          simp only at hg5lt
          have hn4 : (Value.slice A4 (m' + 1) c4).ownBlock ≠ some g5 := fun e => by
            rcases hat4 with e1 | e1
            · exact HNEQ.out (e1 ▸ e)
            · rw [e1] at e; simp at e; omega
          have hz4 : Row wr.heap.size 3 1 ((w4.setCell ⟨g5, 1, none⟩ (.slice A4 (m' + 1) c4)).alloc (.cells #[.int .i64 x0, .slice A4 (m' + 1) c4] 49)) (.slice A4 (m' + 1) c4) ((sp ++ [t]).map ints) := by
            have h1 := (Row.setNe hrow4 hn4 (o := 1) (.slice A4 (m' + 1) c4)).alloc (.cells #[.int .i64 x0, .slice A4 (m' + 1) c4] 49)
            simpa using h1
          have HPSH := Lib.hid (PasR.push (z := ⟨⟨x0, sp ++ [t]⟩, A4, m' + 1, c4⟩) HR.out HB.out.size (below_alloc HB6.out (.cells #[.int .i64 x0, .slice A4 (m' + 1) c4] 49)) hz4 hrow7 hg7 hat7)
          have HB7 := Lib.hid ((step_ HB.out (Nat.le_refl _) (below_alloc HB6.out (.cells #[.int .i64 x0, .slice A4 (m' + 1) c4] 49))).grown hg7 HSZ.out (fun q hq => (HR.out.1.lt q hq).1))
          clear hrow7 hg7 hat7 hrow4 hg4 hat4 hz4 hn4 hc4 hcm4
          go_roundw
          case rel => exact ⟨k + 1, zs ++ [(⟨⟨x0, sp ++ [t]⟩, A4, m' + 1, c4⟩ : Pas)], by omega, by go_num, by show _ = _; simp; exact HZL.out, by show _ = _; rw [HSK.out, List.map_append, HZK.out]; rfl, HPSH.out, HB7.out⟩
          case measure => simp [intOf]; omega
        · have hkd : ((k : Int) == (i : Int)) = false := by simp; omega
          have HSK := Lib.hid (HSK.out.trans (by rw [if_neg hik]))
          have HRO := Lib.hid ((HR.out.1.below HB5.out).alloc (.cells #[.int .i64 x0, .slice B' m' f'] 49))
          have HSR := Lib.hid (Src.lit w5 49 (Pas.lst ⟨⟨x0, sp⟩, B', m', f'⟩) w5.heap.size rfl rfl (Pas.one _))
          have HSZ := Lib.hid (show w.heap.size ≤ (w5.alloc (.cells #[.int .i64 x0, .slice B' m' f'] 49)).heap.size from Nat.le_trans HB.out.size (below_alloc HB5.out (.cells #[.int .i64 x0, .slice B' m' f'] 49)).size)
          clear hik
          go_wp2_with (at_builtin; refine tyPas.append rfl _ _ rfl w.heap.size _ _ rfl HRO.out _ 1 1 _ rfl HSR.out HLL.out HSZ.out ?_; intro o7 w7 hrow7 hg7 hat7)
          have HPSH := Lib.hid (PasR.push (z := ⟨⟨x0, sp⟩, B', m', f'⟩) HR.out HB.out.size (below_alloc HB5.out (.cells #[.int .i64 x0, .slice B' m' f'] 49)) (HROW.out.alloc (.cells #[.int .i64 x0, .slice B' m' f'] 49)) hrow7 hg7 hat7)
          have HB7 := Lib.hid ((step_ HB.out (Nat.le_refl _) (below_alloc HB5.out (.cells #[.int .i64 x0, .slice B' m' f'] 49))).grown hg7 HSZ.out (fun q hq => (HR.out.1.lt q hq).1))
          clear hrow7 hg7 hat7
          go_roundw
          case rel => exact ⟨k + 1, zs ++ [(⟨⟨x0, sp⟩, B', m', f'⟩ : Pas)], by omega, by go_num, by show _ = _; simp; exact HZL.out, by show _ = _; rw [HSK.out, List.map_append, HZK.out]; rfl, HPSH.out, HB7.out⟩
          case measure => simp [intOf]; omega
      · have HBX := Lib.hid ((HL3.out.set 0 (.int .i64 x0)).set 1 (.slice B' m' f'))
        simp only [List.set_cons_zero, List.set_cons_succ] at HBX
        have HB5 := Lib.hid ((hB3.setCell (p := ⟨wr.heap.size, 0, none⟩) (Nat.le_refl _) (.int .i64 x0)).setCell (p := ⟨wr.heap.size, 1, none⟩) (Nat.le_refl _) (.slice B' m' f'))
        have hnq : (Value.slice B' m' f').ownBlock ≠ some wr.heap.size := fun e => by have := (row3.lt _ e).1; simp at this; omega
        have HNEQ := Lib.hid hnq
        have HROW := Lib.hid (Row.setNe (Row.setNe (Row.mono (base' := wr.heap.size) row3 (by simp)) hnq (o := 0) (.int .i64 x0)) hnq (o := 1) (.slice B' m' f'))
        have hg5 : wr.heap.size ≤ wr.heap.size := Nat.le_refl _
        clear row3 hb3 hR0 hR1 hR1b hR2 hR3 hB3 hb1d hb1b hc0 hc1 hf0 hnq HL3
        generalize (w3.setCell ⟨wr.heap.size, 0, none⟩ (.int .i64 x0)).setCell ⟨wr.heap.size, 1, none⟩ (.slice B' m' f') = w5 at HBX HB5 HROW ⊢
        have hc50 := HBX.out.range 0 _ rfl
        have hc51 := HBX.out.range 1 _ rfl
        have hf5 := HBX.out.frozen
        simp only [Nat.zero_add] at hc50 hc51
        by_cases hik : i = k
        · have hkd : ((k : Int) == (i : Int)) = true := by simp; omega
          have HSK := Lib.hid (HSK.out.trans (by rw [if_pos hik]))
          have HRI := Lib.hid (HROW.out.alloc (.cells #[.int .i64 t] 3))
          have HLZ := Lib.hid (show (sp.map ints).length + 1 ≤ 2147483648 by simp; omega)
          have HSI := Lib.hid (show wr.heap.size ≤ (w5.alloc (.cells #[.int .i64 t] 3)).heap.size from (below_alloc HB5.out (.cells #[.int .i64 t] 3)).size)
          clear hik
          go_wp2_with (first
            | (at_builtin; refine tyInt.append rfl _ _ rfl wr.heap.size _ _ rfl HRI.out _ 1 1 [ints t] rfl (Src.one _ _ (ints t) (ints_one _)) HLZ.out HSI.out ?_; intro o4 w4 hrow4 hg4 hat4; obtain ⟨A4, c4, rfl, hc4, hcm4⟩ := hrow4.parts; simp only [List.length_append, List.length_map, List.length_singleton, ← HM'.out] at hc4 hat4 hrow4 ⊢; have HBX4 := Lib.hid ((HBX.out.alloc (.cells #[.int .i64 t] 3)).grown hg4 HNEQ.out); have hc40 := HBX4.out.range 0 _ rfl; have hc41 := HBX4.out.range 1 _ rfl; have hf4 := HBX4.out.frozen; simp only [Nat.zero_add] at hc40 hc41; have HB6 := Lib.hid (((below_alloc HB5.out (.cells #[.int .i64 t] 3)).grown hg4 HSI.out (fun q hq => (HROW.out.lt q hq).1)).setCell (p := ⟨wr.heap.size, 1, none⟩) hg5 (.slice A4 (m' + 1) c4)); have HRO := Lib.hid ((HR.out.1.below HB6.out).alloc (.cells #[.int .i64 x0, .slice A4 (m' + 1) c4] 49)); have HSR := Lib.hid (Src.lit (w4.setCell ⟨wr.heap.size, 1, none⟩ (.slice A4 (m' + 1) c4)) 49 (Pas.lst ⟨⟨x0, sp ++ [t]⟩, A4, m' + 1, c4⟩) w4.heap.size (by simp) rfl (Pas.one _)); have HSZ := Lib.hid (show w.heap.size ≤ ((w4.setCell ⟨wr.heap.size, 1, none⟩ (.slice A4 (m' + 1) c4)).alloc (.cells #[.int .i64 x0, .slice A4 (m' + 1) c4] 49)).heap.size from Nat.le_trans HB.out.size (below_alloc HB6.out _).size))
            | (at_builtin; refine tyPas.append rfl _ _ rfl w.heap.size _ _ rfl HRO.out _ 1 1 _ rfl HSR.out HLL.out HSZ.out ?_; intro o7 w7 hrow7 hg7 hat7))
          have hg5lt := block_lt_of_cell hc50
          simp only at hg5lt
          have hn4 : (Value.slice A4 (m' + 1) c4).ownBlock ≠ some wr.heap.size := fun e => by
            rcases hat4 with e1 | e1
            · exact HNEQ.out (e1 ▸ e)
            · rw [e1] at e; simp at e; omega
          have hz4 : Row wr.heap.size 3 1 ((w4.setCell ⟨wr.heap.size, 1, none⟩ (.slice A4 (m' + 1) c4)).alloc (.cells #[.int .i64 x0, .slice A4 (m' + 1) c4] 49)) (.slice A4 (m' + 1) c4) ((sp ++ [t]).map ints) := by
            have h1 := (Row.setNe hrow4 hn4 (o := 1) (.slice A4 (m' + 1) c4)).alloc (.cells #[.int .i64 x0, .slice A4 (m' + 1) c4] 49)
            simpa using h1
          have HPSH := Lib.hid (PasR.push (z := ⟨⟨x0, sp ++ [t]⟩, A4, m' + 1, c4⟩) HR.out HB.out.size (below_alloc HB6.out (.cells #[.int .i64 x0, .slice A4 (m' + 1) c4] 49)) hz4 hrow7 hg7 hat7)
          have HB7 := Lib.hid ((step_ HB.out (Nat.le_refl _) (below_alloc HB6.out (.cells #[.int .i64 x0, .slice A4 (m' + 1) c4] 49))).grown hg7 HSZ.out (fun q hq => (HR.out.1.lt q hq).1))
          clear hrow7 hg7 hat7 hrow4 hg4 hat4 hz4 hn4 hc4 hcm4
          go_roundw
          case rel => exact ⟨k + 1, zs ++ [(⟨⟨x0, sp ++ [t]⟩, A4, m' + 1, c4⟩ : Pas)], by omega, by go_num, by show _ = _; simp; exact HZL.out, by show _ = _; rw [HSK.out, List.map_append, HZK.out]; rfl, HPSH.out, HB7.out⟩
          case measure => simp [intOf]; omega
        · have hkd : ((k : Int) == (i : Int)) = false := by simp; omega
          have HSK := Lib.hid (HSK.out.trans (by rw [if_neg hik]))
          have HRO := Lib.hid ((HR.out.1.below HB5.out).alloc (.cells #[.int .i64 x0, .slice B' m' f'] 49))
          have HSR := Lib.hid (Src.lit w5 49 (Pas.lst ⟨⟨x0, sp⟩, B', m', f'⟩) w5.heap.size rfl rfl (Pas.one _))
          have HSZ := Lib.hid (show w.heap.size ≤ (w5.alloc (.cells #[.int .i64 x0, .slice B' m' f'] 49)).heap.size from Nat.le_trans HB.out.size (below_alloc HB5.out (.cells #[.int .i64 x0, .slice B' m' f'] 49)).size)
          clear hik
          go_wp2_with (at_builtin; refine tyPas.append rfl _ _ rfl w.heap.size _ _ rfl HRO.out _ 1 1 _ rfl HSR.out HLL.out HSZ.out ?_; intro o7 w7 hrow7 hg7 hat7)
          have HPSH := Lib.hid (PasR.push (z := ⟨⟨x0, sp⟩, B', m', f'⟩) HR.out HB.out.size (below_alloc HB5.out (.cells #[.int .i64 x0, .slice B' m' f'] 49)) (HROW.out.alloc (.cells #[.int .i64 x0, .slice B' m' f'] 49)) hrow7 hg7 hat7)
          have HB7 := Lib.hid ((step_ HB.out (Nat.le_refl _) (below_alloc HB5.out (.cells #[.int .i64 x0, .slice B' m' f'] 49))).grown hg7 HSZ.out (fun q hq => (HR.out.1.lt q hq).1))
          clear hrow7 hg7 hat7
          go_roundw
          case rel => exact ⟨k + 1, zs ++ [(⟨⟨x0, sp⟩, B', m', f'⟩ : Pas)], by omega, by go_num, by show _ = _; simp; exact HZL.out, by show _ = _; rw [HSK.out, List.map_append, HZK.out]; rfl, HPSH.out, HB7.out⟩
          case measure => simp [intOf]; omega
    · obtain rfl : k = xs.length := by omega
      rw [List.take_of_length_le (by simp)] at HZK
      have HCA := Lib.hid (l19Good_any zs _ _ HR.out.s)
      rw [HZK.out, ← HAB.out] at HCA
      cases q
      · go_wp2_with (go_at_call 51; refine HCA.out.mono ?_; rintro e w6 ⟨rfl, hb6⟩)
        go_ret2
        exact ⟨_, [], rfl, by rw [HNO.out (by trivial)]; rfl, PasR.lit rfl (Nat.le_trans HB.out.size hb6.size), below_alloc (step_ HB.out (Nat.le_refl _) hb6) _⟩
      · go_wp2_with (go_at_call 51; refine HCA.out.mono ?_; rintro e w6 ⟨rfl, hb6⟩)
        go_ret2
        exact ⟨_, _, rfl, by rw [HZK.out, HAL.out (by trivial)], HR.out.below hb6, step_ HB.out (Nat.le_refl _) hb6⟩
end Go.Proofs.Ytbeonigmcbipeaa
