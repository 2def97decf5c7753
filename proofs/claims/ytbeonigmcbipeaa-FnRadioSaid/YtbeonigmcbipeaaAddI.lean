/- AddSplit, the program's. No condition. -/
import Derived.Test.YtbeonigmcbipeaaAddQ
namespace Go.Proofs.Ytbeonigmcbipeaa
open Go Go.RowKit

theorem pas_keep {w : World} {g : Nat} {x0 : Int} {v : Value} (h : LitAt w g 49 [.int .i64 x0, v]) : w.cell? ⟨g, 0, none⟩ = some (.int .i64 x0) ∧ w.cell? ⟨g, 1, none⟩ = some v := by
  have h0 := h.range 0 _ rfl
  have h1 := h.range 1 _ rfl
  simp only [Nat.zero_add] at h0 h1
  exact ⟨h0, h1⟩

set_option maxRecDepth 100000 in
set_option maxHeartbeats 4000000 in
theorem impl_AddSplit (xs : List Pas) (ks : List PK) (v : Value) (r t : Int) (w : World) (hks : xs.map Pas.k = ks) (h : PasS w v xs) (_ : I64 r) (ht : I64 t) :
    Calls Try.prog 22 #[v, .int .i64 r, .int .i64 t] w fun e w' => ∃ v' zs, e = .returned (.tuple #[v', .bool (addB ks r t)]) ∧ zs.map Pas.k = addL ks r t ∧ PasR w.heap.size w' v' zs ∧ Below w.heap.size w w' := by
  subst hks
  have HFI := Lib.hid (passingIndex_any xs r v w h)
  have HAS := Lib.hid (fun W (hW : Below w.heap.size w W) => arePassings_any xs v W (h.below hW))
  by_cases hg : goodPs (xs.map Pas.k) = true
  rotate_left
  · have hg' : goodPs (xs.map Pas.k) = false := by simpa using hg
    have hT := addB_bad (r := r) (t := t) hg'
    have HV := Lib.hid (addL_no hT)
    rw [hg'] at HAS
    rw [HV.out, hT]
    clear hg hg' h hT
    go_enter Try.func22, Try.ntmps22
    go_wp2_with (first
      | (go_at_call 58; refine HFI.out.mono ?_; rintro e w1 ⟨rfl, hb1⟩)
      | (go_at_call 17; refine (HAS.out _ hb1).mono ?_; rintro e w2 ⟨rfl, hb2⟩))
    go_ret2
    exact ⟨_, [], rfl, rfl, PasR.nil, step_ hb1 (Nat.le_refl _) hb2⟩
  rw [hg] at HAS
  rcases idxA_cases (isRun r) xs with ⟨hi, hno⟩ | ⟨i, hil, hi, hpi, hbef⟩
  · have hT := addB_none (t := t) hno
    have HV := Lib.hid (addL_no hT)
    rw [HV.out, hT]
    rw [hi] at HFI
    clear hg h hT hi hno
    go_enter Try.func22, Try.ntmps22
    go_wp2_with (first
      | (go_at_call 58; refine HFI.out.mono ?_; rintro e w1 ⟨rfl, hb1⟩)
      | (go_at_call 17; refine (HAS.out _ hb1).mono ?_; rintro e w2 ⟨rfl, hb2⟩))
    go_ret2
    exact ⟨_, [], rfl, rfl, PasR.nil, step_ hb1 (Nat.le_refl _) hb2⟩
  have hgg := goodPs_iff.1 hg
  have hl10 : xs.length ≤ 10 := by simpa using hgg.2
  have HSL := Lib.hid (show ∀ j (h : j < xs.length), xs[j].k.splits.length ≤ 4 from fun j h => by
    have := (hgg.1 j (by simpa using h)).1.2.1
    simpa using this)
  obtain ⟨hfi, hac⟩ := addC_at (t := t) hil hpi hbef
  have HAB := Lib.hid (show addB (xs.map Pas.k) r t = goodPs ((xs.map Pas.k).modify i (addK t)) by simp [addB, hg, hfi, hac])
  have HAL := Lib.hid (fun (hb : addB (xs.map Pas.k) r t = true) => show addL (xs.map Pas.k) r t = (xs.map Pas.k).modify i (addK t) by simp [addL, hb, hac])
  have HNO := Lib.hid (fun (hb : addB (xs.map Pas.k) r t = false) => addL_no hb)
  obtain ⟨q, hq⟩ : ∃ q, addB (xs.map Pas.k) r t = q := ⟨_, rfl⟩
  rw [hq] at HAB HAL HNO ⊢
  have hi0 : ¬ ((i : Int) < 0) := by omega
  rw [hi] at HFI
  have HI := Lib.hid h.2
  obtain ⟨A, c, rfl, hc, hm, hk⟩ := h.1.open_
  clear h hg hgg hfi hac hpi hbef hi hq
  go_enter Try.func22, Try.ntmps22
  go_wp2_with (first
    | (go_at_call 58; refine HFI.out.mono ?_; rintro e w1 ⟨rfl, hb1⟩)
    | (go_at_call 17; refine (HAS.out _ hb1).mono ?_; rintro e w2 ⟨rfl, hb2⟩))
  have hB2 := step_ hb1 (Nat.le_refl _) hb2
  have HR0 := Lib.hid (show PasR w.heap.size (w2.alloc (.cells #[] 49)) (.slice (some ⟨w2.heap.size, 0, none⟩) 0 0) [] from PasR.lit rfl hB2.size)
  have HB0 := Lib.hid (below_alloc hB2 (.cells #[] 49))
  clear hb1 hb2 hB2 HFI HAS
  go_loopw [9, 25] (fun o j wr => ∃ (k : Nat) (zs : List Pas), k ≤ xs.length ∧ j = .int .i64 k ∧ Hid (zs.length = k) ∧ Hid (zs.map Pas.k = (xs.take k).map Pas.k) ∧ Hid (PasR w.heap.size wr o zs) ∧ Hid (Below w.heap.size w wr))
    (fun _ j _ => xs.length - (intOf j).toNat)
  case atStart => exact ⟨0, [], Nat.zero_le _, rfl, rfl, rfl, HR0.out, HB0.out⟩
  case round =>
    clear HR0 HB0
    obtain ⟨k, zs, hkl, rfl, HZL, HZK, HR, HB⟩ := hrel
    by_cases hlt : k < xs.length
    · obtain ⟨b, off, rfl, hat⟩ := flat_at hk (by omega)
      have hr := rangeAt_below (hat k hlt) HB.out
      have hin := (HI.out _ (List.getElem_mem hlt)).below HB.out
      have hpl := HSL.out k hlt
      have HSK := Lib.hid (show (xs.take (k + 1)).map Pas.k = (xs.take k).map Pas.k ++ [xs[k].k] by rw [List.take_succ_eq_append_getElem hlt, List.map_append]; rfl)
      have HLL := Lib.hid (show (zs.map Pas.lst).length + 1 ≤ 2147483648 by rw [List.length_map, HZL.out]; omega)
      obtain ⟨x, hx⟩ : ∃ x, x = xs[k] := ⟨_, rfl⟩
      rw [← hx] at hr hin hpl HSK
      obtain ⟨⟨x0, sp⟩, B, q, f⟩ := x
      have hin : Sl (Flat ints) 1 wr (.slice B q f) sp := hin
      simp only at hpl
      have hb1 : Below wr.heap.size wr (wr.alloc (.cells #[.int .i64 x0, .slice B q f] 49)) := below_alloc (Below.refl _ _) _
      have hb1d := hb1.drew
      have HCALL := Lib.hid (copyInts_any sp (.slice B q f) _ (hin.below (Flat.keeps _) hb1d) (by omega))
      have HKEEP := Lib.hid (show ∀ W', Below (wr.alloc (.cells #[.int .i64 x0, .slice B q f] 49)).heap.size (wr.alloc (.cells #[.int .i64 x0, .slice B q f] 49)) W' → W'.cell? ⟨wr.heap.size, 0, none⟩ = some (.int .i64 x0) ∧ W'.cell? ⟨wr.heap.size, 1, none⟩ = some (.slice B q f) from fun W' hW' => Pas.cellsNew wr ⟨⟨x0, sp⟩, B, q, f⟩ 49 ⟨W', hW'⟩)
      have HBX := Lib.hid (show LitAt (wr.alloc (.cells #[.int .i64 x0, .slice B q f] 49)).drew wr.heap.size 49 [.int .i64 x0, .slice B q f] from LitAt.new _ _ _ _ rfl)
      have hR1 : Below (wr.alloc (.cells #[.int .i64 x0, .slice B q f] 49)).heap.size (wr.alloc (.cells #[.int .i64 x0, .slice B q f] 49)) (wr.alloc (.cells #[.int .i64 x0, .slice B q f] 49)).drew := (Below.refl _ _).drew
      have HB1 := Lib.hid hb1d
      clear hat hk hx hin hb1 hb1d
      go_wp2_with ((with_reducible refine at_load_ 49 ?_); refine Pas.loadImpl rfl _ rfl b (off + k * 2) rfl ⟨⟨x0, sp⟩, B, q, f⟩ hr ?_)
      go_region_held3 (fun w' => w'.cell? ⟨wr.heap.size, 0, none⟩ = some (.int .i64 x0) ∧ w'.cell? ⟨wr.heap.size, 1, none⟩ = some (.slice B q f))
        (first | (with_reducible exact hk4) | exact HKEEP.out _ (by first | (with_reducible exact hR3) | (with_reducible exact hR2) | (with_reducible exact hR1)))
        (first
          | (go_at_call 61; refine HCALL.out.mono ?_; rintro e w3 ⟨r3, rfl, row3, hb3⟩; obtain ⟨B', f', rfl, hf', hfm'⟩ := row3.parts; simp only [List.length_map] at row3 hf' ⊢; obtain ⟨m', hm'⟩ : ∃ m', m' = sp.length := ⟨_, rfl⟩; rw [← hm'] at row3 ⊢; have HM' := Lib.hid hm'; clear hm' hf' hfm'; have hR2 := step_ hR1 (Nat.le_refl _) hb3; have hR3 := below_alloc hR2 (.cells #[.int .i64 x0, .slice B' m' f'] 49); have hB2 := step_ HB1.out (Nat.le_refl _) hb3; have hB3 := below_alloc hB2 (.cells #[.int .i64 x0, .slice B' m' f'] 49); have HRO := Lib.hid (((HR.out.1.below HB1.out).below hb3).alloc (.cells #[.int .i64 x0, .slice B' m' f'] 49)); have HSR := Lib.hid (Src.lit w3 49 (Pas.lst ⟨⟨x0, sp⟩, B', m', f'⟩) w3.heap.size rfl rfl (Pas.one _)))
          | (refine tyPas.stepAppendR (by rfl) _ _ (by rfl) w.heap.size _ _ (by rfl) HRO.out _ 1 1 _ (by rfl) HSR.out HLL.out (Nat.le_trans HB.out.size hB3.size) ?_; intro o4 w4 hrow4 hg4 hat4; have HBX4 := Lib.hid (((HBX.out.below hb3).alloc (.cells #[.int .i64 x0, .slice B' m' f'] 49)).grown hg4 (fun e => by have := (HR.out.1.lt _ e).2; omega)); have hk4 := pas_keep HBX4.out))
      have hpush := PasR.push (z := ⟨⟨x0, sp⟩, B', m', f'⟩) HR.out HB.out.size hB3 (Row.alloc (Row.mono (base' := wr.heap.size) row3 (by simp)) _) hrow4 hg4 hat4
      have HPSH := Lib.hid hpush
      have HB4 := Lib.hid ((step_ HB.out (Nat.le_refl _) hB3).grown hg4 (Nat.le_trans HB.out.size hB3.size) (fun q hq => (HR.out.1.lt q hq).1))
      clear hpush hrow4 hg4 hat4 row3 hb3 hB2 hB3 hR1 hR2 hR3 hk4
      go_wp2
      go_roundw
      case rel => exact ⟨k + 1, zs ++ [(⟨⟨x0, sp⟩, B', m', f'⟩ : Pas)], by omega, by go_num, by show _ = _; simp; exact HZL.out, by show _ = _; rw [HSK.out, List.map_append, HZK.out]; rfl, HPSH.out, HB4.out⟩
      case measure => simp [intOf]; omega
    · obtain rfl : k = xs.length := by omega
      rw [List.take_length] at HZK
      have hiz : i < zs.length := by rw [HZL.out]; exact hil
      have hzi : zs[i].k = xs[i].k := by
        have h1 : (zs.map Pas.k)[i]? = (xs.map Pas.k)[i]? := by rw [HZK.out]
        simpa [hiz, hil] using h1
      have hzs4 : zs[i].k.splits.length ≤ 4 := by rw [hzi]; exact HSL.out i hil
      obtain ⟨g, cap, hv, hbg, hgl, hcap⟩ := HR.out.1.form (by simp; omega)
      simp only [List.length_map] at hv
      subst hv
      clear hcap
      have HPS := Lib.hid (show ∀ z' : Pas, z'.k = addK t zs[i].k → (zs.set i z').map Pas.k = (xs.map Pas.k).modify i (addK t) from fun z' hz' => by
        apply List.ext_getElem
        · simp; exact HZL.out
        · intro j h1 h2
          have hj : j < zs.length := by simpa using h1
          have hjx : j < xs.length := by rw [← HZL.out]; exact hj
          have hjk : zs[j].k = xs[j].k := by
            have h1 : (zs.map Pas.k)[j]? = (xs.map Pas.k)[j]? := by rw [HZK.out]
            simpa [hj, hjx] using h1
          rw [List.getElem_map, List.getElem_modify]
          by_cases e : i = j
          · subst e
            rw [List.getElem_set_self, if_pos rfl, hz', List.getElem_map, hjk]
          · rw [List.getElem_set_ne e, if_neg e, List.getElem_map, hjk])
      have hzr := HR.out.1.range (k := i) (by rw [List.length_map]; exact hiz)
      rw [List.getElem_map] at hzr
      have hzc := (Pas.cells hzr).2
      have HZI := Lib.hid (HR.out.2.1 _ (List.getElem_mem hiz))
      have HSW := Lib.hid (fun W (hW : Below wr.heap.size wr W) z' w4 w5 => PasR.swap (w4 := w4) (w5 := w5) (HR.out.below hW) hiz z')
      have HGET := Lib.hid (show ((zs.map Pas.lst)[i]'(by simpa using hiz)) = zs[i].lst by simp)
      obtain ⟨z, hz⟩ : ∃ z, z = zs[i] := ⟨_, rfl⟩
      rw [← hz] at hzc HZI HSW HPS hzs4 HGET
      obtain ⟨⟨z0, zsp⟩, B, m, d⟩ := z
      simp only at hzc HSW hzs4
      have hzin : Go.Proofs.Ytbeonigmcbipeaa.Row w.heap.size 3 1 wr (.slice B m d) (zsp.map ints) := HZI.out.1
      have HZN := Lib.hid hzin
      have HRI := Lib.hid (hzin.alloc (.cells #[.int .i64 t] 3))
      have hmz : m = zsp.length := by have := hzin.none_len; simpa using this
      subst hmz
      have HLZ := Lib.hid (show (zsp.map ints).length + 1 ≤ 2147483648 by simp; omega)
      have hbl := below_alloc (Below.refl wr.heap.size wr) (.cells #[.int .i64 t] 3)
      have HSZ := Lib.hid (show w.heap.size ≤ (wr.alloc (.cells #[.int .i64 t] 3)).heap.size from Nat.le_trans HB.out.size hbl.size)
      have HBL := Lib.hid hbl
      have HNE := Lib.hid (show (Value.slice (some ⟨g, 0, none⟩) zs.length cap).ownBlock = none ∨ (Value.slice (some ⟨g, 0, none⟩) zs.length cap).ownBlock ≠ (Value.slice B zsp.length d).ownBlock by
        rcases HZI.out.2 with h | h
        · exact .inr (fun e => by rw [show (Value.slice B zsp.length d).ownBlock = none from h] at e; simp [Value.ownBlock] at e)
        · exact .inr (fun e => h e.symm))
      have hiz2 : (i : Int) < (zs.length : Int) := by omega
      clear hz hzr hzin hk hzi hbl
      go_wp2_with (first
        | (at_builtin; refine tyInt.append rfl _ _ rfl w.heap.size _ _ rfl HRI.out _ 1 1 [ints t] rfl (Src.one _ _ (ints t) (ints_one _)) HLZ.out HSZ.out ?_; intro o4 w4 hrow4 hg4 hat4; obtain ⟨A4, c4, rfl, hc4, hcm4⟩ := hrow4.parts; simp only [List.length_append, List.length_map, List.length_singleton] at hc4 hat4 hrow4 ⊢; have HROWP := Lib.hid (Row.kept (HR.out.1.alloc (.cells #[.int .i64 t] 3)) hg4 HNE.out))
        | ((with_reducible refine at_store_ (w := w4) 38 ?_); refine putS_ (e := 49) (sz := 2) rfl _ _ _ rfl infoInts w.heap.size g zs.length cap i 1 _ _ A4 (zsp.length + 1) c4 HROWP.out ?_ (by omega) rfl (by omega) rfl ?_; (simpa using hiz); intro w5 hrow5 hg5))
      have hsw : PasR w.heap.size w5 (.slice (some ⟨g, 0, none⟩) zs.length cap) (zs.set i ⟨⟨z0, zsp ++ [t]⟩, A4, zsp.length + 1, c4⟩) :=
        HSW.out _ HBL.out ⟨⟨z0, zsp ++ [t]⟩, A4, zsp.length + 1, c4⟩ w4 w5 (by simpa using hrow4) hg4 (fun q hq => by
          rcases hat4 with e | e
          · exact .inl (e ▸ hq)
          · rw [show (Value.slice A4 (zsp.length + 1) c4).ownBlock = some q from hq] at e
            simp only [Option.some.injEq] at e
            exact .inr (by omega)) (Row.set_eq (j := i) hrow5 (by rw [HGET.out]; rfl)) hg5
      have hB5 := ((below_alloc HB.out (.cells #[.int .i64 t] 3)).grown hg4 HSZ.out (fun q hq => (HZN.out.lt q hq).1)).grown hg5 (Nat.le_trans HSZ.out hg4.size) (fun q hq => by
        simp only [Value.ownBlock, Option.some.injEq] at hq
        first | omega | (split at hq <;> simp at hq <;> omega))
      have hk5 := HPS.out ⟨⟨z0, zsp ++ [t]⟩, A4, zsp.length + 1, c4⟩ rfl
      have HSV := Lib.hid hsw
      have HKV := Lib.hid hk5
      have HB5 := Lib.hid hB5
      have HCA := Lib.hid (arePassings_any _ _ _ hsw.s)
      rw [hk5, ← HAB.out] at HCA
      clear hsw hB5 hk5 hrow4 hrow5 hg4 hg5 hat4 hzc hc4 hcm4
      cases q
      · go_wp2_with (go_at_call 17; refine HCA.out.mono ?_; rintro e w6 ⟨rfl, hb6⟩)
        go_ret2
        exact ⟨_, [], rfl, by rw [HNO.out (by trivial)]; rfl, PasR.nil, step_ HB5.out (Nat.le_refl _) hb6⟩
      · go_wp2_with (go_at_call 17; refine HCA.out.mono ?_; rintro e w6 ⟨rfl, hb6⟩)
        go_ret2
        exact ⟨_, _, rfl, by rw [HKV.out, HAL.out (by trivial)], HSV.out.below hb6, step_ HB5.out (Nat.le_refl _) hb6⟩
end Go.Proofs.Ytbeonigmcbipeaa
