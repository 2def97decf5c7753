/- The library's functions at slices of scores. No condition. -/
import Derived.Test.YthhlfkeikcmnlaaZLibSqz
import Derived.Test.YthhlfkeikcmnlaaZScoreA
namespace Go.Proofs.Ythhlfkeikcmnlaa
open Go Go.RowKit

set_option maxHeartbeats 1000000 in
theorem clone_Score (xs : List Score) (v : Value) (w : World) (h : Sl (Flat Score.lst) 3 w v xs) (hn : xs.length ≤ 1048577) :
    Calls Try.prog 90 #[v] w fun e w' => ∃ r, e = .returned r ∧ Row w.heap.size 33 3 w' r (xs.map Score.lst) ∧ Below w.heap.size w w' := by
  obtain ⟨A, c, rfl, hc, hm, hk⟩ := h.open_
  have hsrc := Old.now (w0 := w) (Sl.old h Score.lst_len Score.one rfl) (below_alloc (Below.refl _ _) (.cells #[] 33))
  rcases A with _ | A
  · have hx : xs.length = 0 := by
      by_cases h0 : 0 < xs.length
      · obtain ⟨_, _, h1, _⟩ := hk.out h0; cases h1
      · omega
    obtain rfl := List.eq_nil_of_length_eq_zero hx
    have hnil := fun (W : World) => Lib.run_eql_slice_nil (P := Try.prog) W 25 33 none 0 c 0 0 Try.underlying25
    go_enter Try.func90, Try.ntmps90
    go_wp2
    go_ret
    exact ⟨_, rfl, Row.nil _ _ _ _, Below.refl _ _⟩
  · have hn1 := Lib.hid (show ([] : List (List Value)).length + xs.length ≤ 2147483648 by simp; omega)
    have hnil := fun (W : World) => Lib.run_eql_slice_nil (P := Try.prog) W 25 33 (some A) xs.length c 0 0 Try.underlying25
    clear hk h
    go_enter Try.func90, Try.ntmps90
    go_wp2_with (at_builtin; refine tyScore.append rfl _ _ rfl w.heap.size (.slice (some ⟨w.heap.size, 0, none⟩) 0 0) [] rfl (Row.lit_nil w _ _ (Nat.le_refl _)) _ _ _ (xs.map Score.lst) rfl hsrc hn1.out (by simp) ?_; intro r w1 row1 hg1 _)
    go_ret
    exact ⟨_, rfl, by simpa using row1, (below_alloc (Below.refl _ _) _).grown hg1 (by simp) (fun q hq => by simp [Value.ownBlock] at hq; omega)⟩


set_option maxHeartbeats 1000000 in
theorem indexFunc_91 (cap0 : Value) (pr : Score → Bool) (ps : List Score) (v : Value) (w : World) (h : Sl (Flat Score.lst) 3 w v ps)
    (hf : ∀ s : After w, ∀ k (hk : k < ps.length), Calls Try.prog 91 #[ps[k].val, cap0] s.w' fun e w' => e = .returned (.bool (pr ps[k])) ∧ Below s.w'.heap.size s.w' w') :
    Calls Try.prog 94 #[v, .func (.func 91) #[] #[cap0]] w fun e w' => e = .returned (.int .i64 (idxA pr ps)) ∧ Below w.heap.size w w' := by
  obtain ⟨A, c, rfl, hc, hm, hk⟩ := h.open_
  have HF := Lib.hid hf
  clear hf
  go_enter Try.func94, Try.ntmps94
  go_wp2
  go_loopw [8] (fun i wr => ∃ k : Nat, k ≤ ps.length ∧ i = .int .i64 k ∧ Hid (∀ j (h : j < ps.length), j < k → pr ps[j] = false) ∧ Below w.heap.size w wr)
    (fun i _ => ps.length - (intOf i).toNat)
  case atStart => exact ⟨0, Nat.zero_le _, rfl, fun j h hj => absurd hj (by omega), Below.refl _ _⟩
  case round =>
    obtain ⟨k, hkl, rfl, HS, hb⟩ := hrel
    by_cases hlt : k < ps.length
    · obtain ⟨b, off, rfl, hat⟩ := flat_at hk (by omega)
      have hr := rangeAt_below (hat k hlt) hb
      clear hat hk h
      go_wp2_with ((with_reducible refine at_load_ 33 ?_); refine Score.loadImpl rfl _ rfl b (off + k * 3) rfl ps[k] hr ?_)
      refine (HF.out ⟨wr, hb⟩ k hlt).mono ?_
      rintro e w2 ⟨rfl, hb2⟩
      have hB := step_ hb (Nat.le_refl _) hb2
      by_cases hp : pr ps[k] = true
      · have HP := Lib.hid hp
        rw [hp]
        clear hp
        go_wp2
        go_ret
        exact ⟨ret_int (idxA_found hlt HP.out HS.out).symm, hB⟩
      · have hp' : pr ps[k] = false := by simpa using hp
        have HP := Lib.hid hp'
        rw [hp']
        clear hp hp'
        go_wp2
        go_roundw
        case rel => exact ⟨k + 1, by omega, by go_num, fun j hj hjk => by
          by_cases e : j < k
          · exact HS.out j hj e
          · obtain rfl : j = k := by omega
            exact HP.out, hB⟩
        case measure => simp [intOf]; omega
    · go_wp2
      go_ret
      obtain rfl : k = ps.length := by omega
      exact ⟨ret_int (idxA_none fun j hj => HS.out j hj hj).symm, hb⟩


set_option maxHeartbeats 4000000 in
theorem deleteFunc_91 (cap0 : Value) (pr : Score → Bool) (xs : List Score) (v : Value) (base : Nat) (w : World) (h : Row base 33 3 w v (xs.map Score.lst)) (hn : xs.length ≤ 1048577)
    (hf : ∀ W (x : Score), x ∈ xs → w.grownBy W v.ownBlock → Calls Try.prog 91 #[x.val, cap0] W fun e w' => e = .returned (.bool (pr x)) ∧ Below W.heap.size W w') :
    Calls Try.prog 89 #[v, .func (.func 91) #[] #[cap0]] w fun e w' => ∃ r, e = .returned r ∧ Row base 33 3 w' r ((xs.filter fun x => !pr x).map Score.lst) ∧ w.grownBy w' v.ownBlock ∧ r.ownBlock = v.ownBlock := by
  have HF := Lib.hid hf
  have hc := indexFunc_91 cap0 pr xs v w (Sl.of_flat h) (fun s k hk => hf s.w' xs[k] (List.getElem_mem hk) (grown_of s.hb))
  rcases idxA_cases pr xs with ⟨hi, hall⟩ | ⟨i, hil, hi, hpi, hbef⟩
  · have HALL := Lib.hid (show xs.filter (fun x => !pr x) = xs from List.filter_eq_self.2 fun x hx => by simpa using hall x hx)
    rw [hi] at hc
    rw [HALL.out]
    clear hi hall hf
    go_enter Try.func89, Try.ntmps89
    go_wp2_with (go_at_call 94; refine hc.mono ?_; rintro e w1 ⟨rfl, hb1⟩)
    go_ret
    exact ⟨_, rfl, h.below hb1, grown_of hb1, rfl⟩
  rw [hi] at hc
  have hST := filter_first (pr := pr) hil hpi hbef
  have HFT := Lib.hid (fun j (hj : j < xs.length) => filter_step pr xs j hj)
  clear hi hf hbef hpi
  obtain ⟨g, cap, rfl, hbg, hg, hcap⟩ := h.form (by simp; omega)
  have hcm : cap ≤ 9223372036854775807 := by
    obtain ⟨_, _, h1, _, h3⟩ := h.parts
    simp only [Value.slice.injEq] at h1
    omega
  simp only [List.length_map] at hcap h hc HF ⊢
  have hne1 : ((i : Int) == -1) = false := by rw [beq_eq_false_iff_ne]; omega
  go_enter Try.func89, Try.ntmps89
  go_wp2_with (go_at_call 94; refine hc.mono ?_; rintro e w1 ⟨rfl, hb1⟩)
  have h1 := h.below hb1
  have hg1 : w.grownBy w1 (some g) := grown_of hb1
  clear hc
  go_loopw [5, 6] (fun iv jv wr => ∃ (i j : Nat) (Y : List (List Value)), i < j ∧ j ≤ xs.length ∧ iv = .int .i64 i ∧ jv = .int .i64 j ∧ Row base 33 3 wr (.slice (some ⟨g, 0, none⟩) xs.length cap) Y ∧ w.grownBy wr (some g) ∧ Y.length = xs.length ∧
      Hid (Y.take i = ((xs.take j).filter fun x => !pr x).map Score.lst) ∧ Hid (i = ((xs.take j).filter fun x => !pr x).length) ∧ Hid (Y.drop j = (xs.drop j).map Score.lst))
    (fun _ jv _ => xs.length - (intOf jv).toNat)
  case atStart =>
    refine ⟨i, i + 1, xs.map Score.lst, by omega, by omega, rfl, by go_num, h1, hg1, by simp, ?_, ?_, ?_⟩
    · show _ = _
      rw [hST, ← List.map_take]
    · show _ = _
      rw [hST]; first | (simp; done) | (simp; omega)
    · show _ = _
      rw [List.map_drop]
  case round =>
    obtain ⟨i, j, Y, hij, hjl, rfl, rfl, hrow, hgr, hYl, HT, HI, HD⟩ := hrel
    by_cases hlt : j < xs.length
    · have hjY : j < Y.length := by omega
      have hiY : i < Y.length := by omega
      have hYj : Y[j] = xs[j].lst := by
        have h1 : (Y.drop j)[0]? = ((xs.drop j).map Score.lst)[0]? := by rw [HD.out]
        rw [List.getElem?_drop, List.getElem?_map, List.getElem?_drop] at h1
        simpa [hjY, hlt] using h1
      have hr := hrow.range hjY
      rw [hYj] at hr
      have HNX := Lib.hid (HFT.out j hlt)
      have hcn := Score.cells (Score.rangeNew wr xs[j] 33)
      simp only [Nat.zero_add] at hcn
      have hgx : w.grownBy (wr.alloc (.cells #[.int .i64 xs[j].runner, .int .i64 xs[j].race, .int .i64 xs[j].points] 33)) (some g) := grown_trans hgr (grown_of (below_alloc (Below.refl _ _) _))
      have HCALL := Lib.hid (HF.out _ xs[j] (List.getElem_mem hlt) hgx)
      clear hgx hYj
      go_wp2_with ((with_reducible refine at_load_ 33 ?_); refine Score.loadImpl rfl _ rfl g (j * 3) rfl xs[j] hr ?_)
      refine HCALL.out.mono ?_
      rintro e w2 ⟨rfl, hb2⟩
      have hrow2 := (hrow.alloc _).below hb2
      have hgr2 : w.grownBy w2 (some g) := grown_trans hgr (grown_of (step_ (below_alloc (Below.refl _ _) _) (Nat.le_refl _) hb2))
      have hcn2 := Score.cells (rangeAt_below (Score.rangeNew wr xs[j] 33) hb2)
      simp only [Nat.zero_add] at hcn2
      by_cases hp : pr xs[j] = true
      · have HP := Lib.hid hp
        rw [hp]
        clear hp hcn hr
        go_wp2
        go_roundw
        case rel =>
          refine ⟨i, j + 1, Y, by omega, by omega, rfl, by go_num, hrow2, hgr2, hYl, ?_, ?_, ?_⟩
          · show _ = _
            rw [HNX.out, HP.out, HT.out]; simp
          · show _ = _
            rw [HNX.out, HP.out]; simpa using HI.out
          · exact drop_step hjY hlt HD.out
        case measure => simp [intOf]; omega
      · have hp' : pr xs[j] = false := by simpa using hp
        have HP := Lib.hid hp'
        rw [hp']
        clear hp hp' hcn hr
        go_wp2_with (refine tyScore.store rfl _ _ rfl base g xs.length cap i _ Y xs[j].lst hrow2 hiY rfl rfl rfl rfl xs[j].one ?_; intro w3 hrow3 hg3)
        go_roundw
        case rel =>
          refine ⟨i + 1, j + 1, Y.set i xs[j].lst, by omega, by omega, by go_num, by go_num, hrow3, grown_trans hgr2 hg3, by simpa using hYl, ?_, ?_, ?_⟩
          · show _ = _
            rw [HNX.out, HP.out, take_set_succ hiY, HT.out]; simp
          · show _ = _
            rw [HNX.out, HP.out]; simpa using HI.out
          · have := drop_step hjY hlt HD.out
            show _ = _
            rw [List.drop_set_of_lt (by omega)]
            exact this
        case measure => simp [intOf]; omega
    · obtain rfl : j = xs.length := by omega
      have HFIN := Lib.hid HT.out
      rw [List.take_length] at HFIN
      have HIL := Lib.hid HI.out
      rw [List.take_length] at HIL
      have hic : i ≤ cap := by omega
      have hki : i + (xs.length - i) = Y.length := by omega
      have hdp : 0 < xs.length - i → (some ⟨g, i * 3, none⟩ : Option Addr) = some ⟨g, i * 3, none⟩ := fun _ => rfl
      have hne : ¬ cap = i := by omega
      go_wp2_with (first
        | ((with_reducible refine at_clear_ ?_); refine tyScore.clear (by simp [scoreZ, Value.oneCell']) rfl _ rfl base g xs.length cap Y hrow i (xs.length - i) _ (some ⟨g, i * 3, none⟩) rfl hki hdp ?_; intro w4 hrow4 hg4)
        | (at_builtin; fail))
      go_ret
      have hp := hrow4.prefix_ (k := i) (by simp; omega)
      rw [List.take_append_of_le_length (by simp; omega), List.take_take, Nat.min_eq_left (Nat.le_refl _), HFIN.out] at hp
      exact ⟨_, rfl, hp, grown_trans hgr hg4, rfl⟩

end Go.Proofs.Ythhlfkeikcmnlaa
