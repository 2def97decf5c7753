/- The walks of VoidCode. No condition. -/
import Derived.Test.YtojpklpfnmjikaaReQ
import Derived.Test.YtojpklpfnmjikaaIntL
namespace Go.Proofs.Ytojpklpfnmjikaa
open Go Go.RowKit

set_option maxHeartbeats 1000000 in
theorem indexFunc_76 (cap0 : Value) (pr : IntE → Bool) (ps : List IntE) (v : Value) (w : World) (h : Sl (Flat IntE.lst) 1 w v ps)
    (hf : ∀ s : After w, ∀ k (hk : k < ps.length), Calls Try.prog 76 #[ps[k].val, cap0] s.w' fun e w' => e = .returned (.bool (pr ps[k])) ∧ Below s.w'.heap.size s.w' w') :
    Calls Try.prog 110 #[v, .func (.func 76) #[] #[cap0]] w fun e w' => e = .returned (.int .i64 (idxA pr ps)) ∧ Below w.heap.size w w' := by
  obtain ⟨A, c, rfl, hc, hm, hk⟩ := h.open_
  have HF := Lib.hid hf
  clear hf
  go_enter Try.func110, Try.ntmps110
  go_wp2
  go_loopw [8] (fun i wr => ∃ k : Nat, k ≤ ps.length ∧ i = .int .i64 k ∧ Hid (∀ j (h : j < ps.length), j < k → pr ps[j] = false) ∧ Below w.heap.size w wr)
    (fun i _ => ps.length - (intOf i).toNat)
  case atStart => exact ⟨0, Nat.zero_le _, rfl, fun j h hj => absurd hj (by omega), Below.refl _ _⟩
  case round =>
    obtain ⟨k, hkl, rfl, HS, hb⟩ := hrel
    by_cases hlt : k < ps.length
    · obtain ⟨b, off, rfl, hat⟩ := flat_at hk (by omega)
      have hr := rangeAt_below (hat k hlt) hb
      have hr := int_at hr
      rw [Nat.mul_one] at hr
      clear hat hk h
      go_wp2_with fail
      refine (HF.out ⟨wr, hb⟩ k hlt).mono ?_
      rintro e w2 ⟨rfl, hb2⟩
      have hB := step_ hb (Nat.le_refl _) hb2
      by_cases hp : pr ps[k] = true
      · have HP := Lib.hid hp
        rw [hp]
        clear hp
        go_wp2
        go_ret
        exact ⟨ret_int (idxA_found hlt HP.out HS.out).symm, hB⟩
      · have hp' : pr ps[k] = false := by simpa using hp
        have HP := Lib.hid hp'
        rw [hp']
        clear hp hp'
        go_wp2
        go_roundw
        case rel => exact ⟨k + 1, by omega, by go_num, fun j hj hjk => by
          by_cases e : j < k
          · exact HS.out j hj e
          · obtain rfl : j = k := by omega
            exact HP.out, hB⟩
        case measure => simp [intOf]; omega
    · go_wp2
      go_ret
      obtain rfl : k = ps.length := by omega
      exact ⟨ret_int (idxA_none fun j hj => HS.out j hj hj).symm, hb⟩


set_option maxHeartbeats 4000000 in
theorem deleteInt_76 (cap0 : Value) (pr : Int → Bool) (xs : List Int) (v : Value) (base : Nat) (w : World) (h : Row base 3 1 w v (xs.map ints)) (hn : xs.length ≤ 1048577)
    (hf : ∀ W (x : Int), x ∈ xs → w.grownBy W v.ownBlock → Calls Try.prog 76 #[.int .i64 x, cap0] W fun e w' => e = .returned (.bool (pr x)) ∧ Below W.heap.size W w') :
    Calls Try.prog 74 #[v, .func (.func 76) #[] #[cap0]] w fun e w' => ∃ r, e = .returned r ∧ Row base 3 1 w' r ((xs.filter fun x => !pr x).map ints) ∧ w.grownBy w' v.ownBlock ∧ r.ownBlock = v.ownBlock := by
  have HF := Lib.hid hf
  have hc := indexFunc_76 cap0 pr xs v w (Sl.of_flat h) (fun s k hk => hf s.w' xs[k] (List.getElem_mem hk) (grown_of s.hb))
  rcases idxA_cases pr xs with ⟨hi, hall⟩ | ⟨i, hil, hi, hpi, hbef⟩
  · have HALL := Lib.hid (show xs.filter (fun x => !pr x) = xs from List.filter_eq_self.2 fun x hx => by simpa using hall x hx)
    rw [hi] at hc
    rw [HALL.out]
    clear hi hall hf
    go_enter Try.func74, Try.ntmps74
    go_wp2_with (go_at_call 110; refine hc.mono ?_; rintro e w1 ⟨rfl, hb1⟩)
    go_ret
    exact ⟨_, rfl, h.below hb1, grown_of hb1, rfl⟩
  rw [hi] at hc
  have hST := filter_first (pr := pr) hil hpi hbef
  have HFT := Lib.hid (fun j (hj : j < xs.length) => filter_step pr xs j hj)
  clear hi hf hbef hpi
  obtain ⟨g, cap, rfl, hbg, hg, hcap⟩ := h.form (by simp; omega)
  have hcm : cap ≤ 9223372036854775807 := by
    obtain ⟨_, _, h1, _, h3⟩ := h.parts
    simp only [Value.slice.injEq] at h1
    omega
  simp only [List.length_map] at hcap h hc HF ⊢
  have hne1 : ((i : Int) == -1) = false := by rw [beq_eq_false_iff_ne]; omega
  go_enter Try.func74, Try.ntmps74
  go_wp2_with (go_at_call 110; refine hc.mono ?_; rintro e w1 ⟨rfl, hb1⟩)
  have h1 := h.below hb1
  have hg1 : w.grownBy w1 (some g) := grown_of hb1
  clear hc
  go_loopw [5, 6] (fun iv jv wr => ∃ (i j : Nat) (Y : List (List Value)), i < j ∧ j ≤ xs.length ∧ iv = .int .i64 i ∧ jv = .int .i64 j ∧ Row base 3 1 wr (.slice (some ⟨g, 0, none⟩) xs.length cap) Y ∧ w.grownBy wr (some g) ∧ Y.length = xs.length ∧
      Hid (Y.take i = ((xs.take j).filter fun x => !pr x).map ints) ∧ Hid (i = ((xs.take j).filter fun x => !pr x).length) ∧ Hid (Y.drop j = (xs.drop j).map ints))
    (fun _ jv _ => xs.length - (intOf jv).toNat)
  case atStart =>
    refine ⟨i, i + 1, xs.map ints, by omega, by omega, rfl, by go_num, h1, hg1, by simp, ?_, ?_, ?_⟩
    · show _ = _
      rw [hST, ← List.map_take]
    · show _ = _
      rw [hST]; first | (simp; done) | (simp; omega)
    · show _ = _
      rw [List.map_drop]
  case round =>
    obtain ⟨i, j, Y, hij, hjl, rfl, rfl, hrow, hgr, hYl, HT, HI, HD⟩ := hrel
    by_cases hlt : j < xs.length
    · have hjY : j < Y.length := by omega
      have hiY : i < Y.length := by omega
      have hYj : Y[j] = ints xs[j] := by
        have h1 : (Y.drop j)[0]? = ((xs.drop j).map ints)[0]? := by rw [HD.out]
        rw [List.getElem?_drop, List.getElem?_map, List.getElem?_drop] at h1
        simpa [hjY, hlt] using h1
      have hr := hrow.range hjY
      rw [hYj] at hr
      have hr := int_at hr
      rw [Nat.mul_one] at hr
      have HNX := Lib.hid (HFT.out j hlt)
      have HCALL := Lib.hid (HF.out _ xs[j] (List.getElem_mem hlt) hgr)
      have HY1 := Lib.hid (hrow.1 _ (List.getElem_mem hiY))
      clear hYj
      obtain ⟨x, hx⟩ : ∃ x, x = xs[j] := ⟨_, rfl⟩
      rw [← hx] at hr HNX HCALL
      have HXE := Lib.hid hx
      clear hx
      go_wp2_with fail
      refine HCALL.out.mono ?_
      rintro e w2 ⟨rfl, hb2⟩
      have hrow2 := hrow.below hb2
      have hgr2 : w.grownBy w2 (some g) := grown_trans hgr (grown_of hb2)
      by_cases hp : pr x = true
      · have HP := Lib.hid hp
        rw [hp]
        clear hp hr
        go_wp2
        go_roundw
        case rel =>
          refine ⟨i, j + 1, Y, by omega, by omega, rfl, by go_num, hrow2, hgr2, hYl, ?_, ?_, ?_⟩
          · show _ = _
            rw [HNX.out, HP.out, HT.out]; simp
          · show _ = _
            rw [HNX.out, HP.out]; simpa using HI.out
          · exact drop_step hjY hlt HD.out
        case measure => simp [intOf]; omega
      · have hp' : pr x = false := by simpa using hp
        have HP := Lib.hid hp'
        rw [hp']
        clear hp hp' hr
        go_wp2_with (refine put1_ (e := 3) (sz := 1) rfl _ _ _ rfl infoInt base g xs.length cap i 0 _ Y _ hrow2 hiY (by omega) rfl (by omega) rfl ?_; intro w3 hrow3 hg3)
        have hE : Y.set i (Y[i].set 0 (.int .i64 x)) = Y.set i (ints x) := by
          obtain ⟨a, ha⟩ := List.length_eq_one_iff.1 HY1.out
          rw [ha]; rfl
        have HR3 := Lib.hid (Row.set_eq hrow3 (show Y[i].set 0 (.int .i64 x) = ints x by
          obtain ⟨a, ha⟩ := List.length_eq_one_iff.1 HY1.out
          rw [ha]; rfl))
        go_roundw
        case rel =>
          refine ⟨i + 1, j + 1, Y.set i (ints x), by omega, by omega, by go_num, by go_num, HR3.out, grown_trans hgr2 hg3, by simpa using hYl, ?_, ?_, ?_⟩
          · show _ = _
            rw [HNX.out, HP.out, take_set_succ hiY, HT.out]; simp
          · show _ = _
            rw [HNX.out, HP.out]; simpa using HI.out
          · have := drop_step hjY hlt HD.out
            show _ = _
            rw [List.drop_set_of_lt (by omega)]
            exact this
        case measure => simp [intOf]; omega
    · obtain rfl : j = xs.length := by omega
      have HFIN := Lib.hid HT.out
      rw [List.take_length] at HFIN
      have HIL := Lib.hid HI.out
      rw [List.take_length] at HIL
      have hic : i ≤ cap := by omega
      have hki : i + (xs.length - i) = Y.length := by omega
      have hdp : 0 < xs.length - i → (some ⟨g, i, none⟩ : Option Addr) = some ⟨g, i * 1, none⟩ := fun _ => by rw [Nat.mul_one]
      have hne : ¬ cap = i := by omega
      go_wp2_with (first
        | ((with_reducible refine at_clear_ ?_); refine tyInt.clear (by simp [Value.oneCell']) rfl _ rfl base g xs.length cap Y hrow i (xs.length - i) _ (some ⟨g, i, none⟩) rfl hki hdp ?_; intro w4 hrow4 hg4)
        | (at_builtin; fail))
      go_ret
      have hp := hrow4.prefix_ (k := i) (by simp; omega)
      rw [List.take_append_of_le_length (by simp; omega), List.take_take, Nat.min_eq_left (Nat.le_refl _), HFIN.out] at hp
      exact ⟨_, rfl, hp, grown_trans hgr hg4, rfl⟩


theorem codeEq_any (n code : Int) (b : Nat) (w : World) (hc : w.cell? ⟨b, 0, none⟩ = some (.int .i64 code)) :
    Calls Try.prog 76 #[.int .i64 n, .pointer (some ⟨b, 0, none⟩)] w fun e w' => e = .returned (.bool (n == code)) ∧ Below w.heap.size w w' := by
  go_enter Try.func76, Try.ntmps76
  go_wp2
  go_ret
  exact ⟨rfl, Below.refl _ _⟩
/-- The codes without one. -/
def lessC (cs : List Int) (code : Int) : List Int := cs.filter fun x => !(x == code)
theorem lessC_len (cs : List Int) (code : Int) : (lessC cs code).length ≤ cs.length := List.length_filter_le _ _
theorem lessC_step (cs : List Int) (code : Int) (k : Nat) (h : k < cs.length) : lessC (cs.take (k + 1)) code = lessC (cs.take k) code ++ if cs[k] = code then [] else [cs[k]] := by
  unfold lessC
  rw [List.take_succ_eq_append_getElem h, List.filter_append]
  by_cases e : cs[k] = code <;> simp [e]
/-- Whom the code's voiding helps. -/
def vdL (cs ls : List Int) (limit : Int) (ks : List RunK) : List Int := (ks.filter fun k => stV k cs limit != 0 && stV k ls limit == 0).map RunK.runner
theorem vdL_step (cs ls : List Int) (limit : Int) (ks : List RunK) (k : Nat) (h : k < ks.length) : vdL cs ls limit (ks.take (k + 1)) = vdL cs ls limit (ks.take k) ++ if stV ks[k] cs limit ≠ 0 ∧ stV ks[k] ls limit = 0 then [ks[k].runner] else [] := by
  unfold vdL
  rw [List.take_succ_eq_append_getElem h, List.filter_append, List.map_append]
  by_cases e : stV ks[k] cs limit = 0 <;> by_cases e2 : stV ks[k] ls limit = 0 <;> simp [e, e2]
theorem vdL_len (cs ls : List Int) (limit : Int) (ks : List RunK) : (vdL cs ls limit ks).length ≤ ks.length := by
  unfold vdL
  rw [List.length_map]
  exact List.length_filter_le _ _
noncomputable def askV (ks : List RunK) (cs : List Int) (limit code : Int) : Bool := askR ks cs limit && cs.any (fun y => code == y)
noncomputable def voidV (ks : List RunK) (cs : List Int) (limit code : Int) : List Int := if askV ks cs limit code = true then vdL cs (lessC cs code) limit ks else []
theorem voidV_len (ks : List RunK) (cs : List Int) (limit code : Int) : (voidV ks cs limit code).length ≤ 10 := by
  unfold voidV
  split
  · rename_i h
    simp only [askV, Bool.and_eq_true] at h
    have h1 := vdL_len cs (lessC cs code) limit ks
    have h2 := (goodRs_iff.1 (askR_parts h.1).1).2
    omega
  · simp
theorem Sl.cell_int {w : World} {A : Option Addr} {n c : Nat} {xs : List Int} (h : Sl (Flat ints) 1 w (.slice A n c) xs) : n = xs.length := by
  obtain ⟨A', c', hv, _⟩ := h
  simp only [Value.slice.injEq] at hv
  exact hv.2.1

set_option maxRecDepth 100000 in
set_option maxHeartbeats 4000000 in
theorem impl_VoidCode (xs : List Run) (ks : List RunK) (v : Value) (cs : List Int) (u : Value) (limit code : Int) (w : World) (hks : xs.map Run.k = ks) (h : RunS w v xs) (hs : Sl (Flat ints) 1 w u cs) (_ : ∀ x ∈ cs, I64 x) (_ : I64 limit) (_ : I64 code) :
    Calls Try.prog 38 #[v, u, .int .i64 limit, .int .i64 code] w fun e w' => ∃ r, e = .returned (.tuple #[r, .bool (askV ks cs limit code)]) ∧ Row w.heap.size 3 1 w' r ((voidV ks cs limit code).map ints) ∧ Below w.heap.size w w' := by
  subst hks
  have hW : Below w.heap.size w (w.alloc (.cells #[.int .i64 code] 3)) := below_alloc (Below.refl _ _) _
  have hc0 : (w.alloc (.cells #[.int .i64 code] 3)).cell? ⟨w.heap.size, 0, none⟩ = some (.int .i64 code) := rangeAt_new w [.int .i64 code] 3 0 _ rfl
  have HAS := Lib.hid (canJudge_any xs cs limit v u _ (h.below hW) (hs.below (Flat.keeps _) hW))
  have HW := Lib.hid hW
  by_cases ha : askR (xs.map Run.k) cs limit = true
  rotate_left
  · have ha' : askR (xs.map Run.k) cs limit = false := by simpa using ha
    have HV := Lib.hid (show voidV (xs.map Run.k) cs limit code = [] by simp [voidV, askV, ha'])
    have HA := Lib.hid (show askV (xs.map Run.k) cs limit code = false by simp [askV, ha'])
    rw [ha'] at HAS
    rw [HV.out, HA.out]
    clear ha ha' h hs hW hc0
    go_enter Try.func38, Try.ntmps38
    go_wp2_with (go_at_call 64; refine HAS.out.mono ?_; rintro e w1 ⟨rfl, hb1⟩)
    go_ret2
    exact ⟨_, rfl, Row.nil _ _ _ _, step_ HW.out (Nat.le_refl _) hb1⟩
  have HCT := Lib.hid (fun W (hW : Below w.heap.size w W) => containsInt_any cs u code W (hs.below (Flat.keeps _) hW))
  rw [ha] at HAS
  by_cases hq : (cs.any fun y => code == y) = true
  rotate_left
  · have hq' : (cs.any fun y => code == y) = false := (Bool.not_eq_true _).mp hq
    have HV := Lib.hid (show voidV (xs.map Run.k) cs limit code = [] by simp only [voidV, askV, hq', Bool.and_false]; rfl)
    have HA := Lib.hid (show askV (xs.map Run.k) cs limit code = false by simp only [askV, hq', Bool.and_false])
    rw [hq'] at HCT
    rw [HV.out, HA.out]
    clear hq hq' ha h hs hW
    go_enter Try.func38, Try.ntmps38
    go_wp2_with (first
      | (go_at_call 64; refine HAS.out.mono ?_; rintro e w1 ⟨rfl, hb1⟩; have hc1 := After.keep hc0 ⟨_, hb1⟩)
      | (go_at_call 73; refine (HCT.out _ (step_ HW.out (Nat.le_refl _) hb1)).mono ?_; rintro e w2 ⟨rfl, rfl⟩))
    go_ret2
    exact ⟨_, rfl, Row.nil _ _ _ _, step_ HW.out (Nat.le_refl _) hb1⟩
  obtain ⟨hg, hco, hl1, hl2⟩ := askR_parts ha
  have hlen := codesOk_len hco
  have hxl := goodRs_len hg
  have HOK := Lib.hid (goodRs_ok hg)
  have HV := Lib.hid (show voidV (xs.map Run.k) cs limit code = vdL cs (lessC cs code) limit (xs.map Run.k) by simp only [voidV, askV, hq, ha]; rfl)
  have HA := Lib.hid (show askV (xs.map Run.k) cs limit code = true by simp only [askV, hq, ha]; rfl)
  have HCP := Lib.hid (fun W (hW : Below w.heap.size w W) => copyInts_any cs u W (hs.below (Flat.keeps _) hW) (by omega))
  have HRS := Lib.hid h
  have HSS := Lib.hid hs
  rw [hq] at HCT
  rw [HV.out, HA.out]
  obtain ⟨A, c, rfl, hc, hm, hk⟩ := h.1.open_
  clear hq ha h hs hW hg hco
  go_enter Try.func38, Try.ntmps38
  go_wp2_with (first
    | (go_at_call 64; refine HAS.out.mono ?_; rintro e w1 ⟨rfl, hb1⟩; have hc1 := After.keep hc0 ⟨_, hb1⟩; have hB1 := step_ HW.out (Nat.le_refl _) hb1)
    | (go_at_call 73; refine (HCT.out _ (step_ HW.out (Nat.le_refl _) hb1)).mono ?_; rintro e w2 ⟨rfl, rfl⟩)
    | (go_at_call 75; refine (HCP.out _ hB1).mono ?_; rintro e w3 ⟨l0, rfl, row3, hb3⟩)
    | (go_at_call 74
       have hc3 := After.keep hc1 ⟨_, hb3⟩
       have hlt := block_lt_of_cell hc1
       refine (deleteInt_76 (.pointer (some ⟨w.heap.size, 0, none⟩)) (fun x => x == code) cs l0 _ w3 row3 (by omega) (fun W x _ hg => codeEq_any x code w.heap.size W (range_grown_ (b := w.heap.size) (o := 0) (cs := [.int .i64 code]) (fun j u hu => by
         have : j = 0 := by have := (List.getElem?_eq_some_iff.1 hu).1; simp at this; omega
         subst this
         have hu' : u = .int .i64 code := by simpa using hu.symm
         rw [hu']; exact hc3) hg (fun e => by have := (row3.lt _ e).1; simp only at hlt; omega) 0 _ rfl))).mono ?_
       rintro e w5 ⟨lf, rfl, row5, hg5, ho5⟩))
  have HB5 := Lib.hid ((step_ hB1 (Nat.le_refl _) hb3).grown hg5 (Nat.le_trans hB1.size hb3.size) (fun q hq => by have := (row3.lt q hq).1; have := hB1.size; omega))
  have HLF := Lib.hid (Sl.of_flat row5)
  have HLL := Lib.hid (lessC_len cs code)
  have own0 : Own w5 3 1 (w5.alloc (.cells #[] 3)) (.slice (some ⟨w5.heap.size, 0, none⟩) 0 0) [] := Own.nil (Below.refl _ _) _ rfl
  obtain ⟨ls, hls⟩ : ∃ ls, ls = lessC cs code := ⟨_, rfl⟩
  have HLS := Lib.hid (show Sl (Flat ints) 1 w5 lf ls by rw [hls]; exact HLF.out)
  rw [← hls] at HLL
  have HLSE := Lib.hid hls
  have HC1 := Lib.hid (fun k (hk : k < xs.length) W (hW : Below w5.heap.size w5 W) => statusOf_any xs[k] cs u limit W (((HRS.out.2 _ (List.getElem_mem hk)).below HB5.out).below hW) ((HSS.out.below (Flat.keeps _) HB5.out).below (Flat.keeps _) hW) (by omega) (HOK.out _ (List.getElem_mem hk)))
  have HC2 := Lib.hid (fun k (hk : k < xs.length) W (hW : Below w5.heap.size w5 W) => statusOf_any xs[k] ls lf limit W (((HRS.out.2 _ (List.getElem_mem hk)).below HB5.out).below hW) (HLS.out.below (Flat.keeps _) hW) (by have := HLL.out; omega) (HOK.out _ (List.getElem_mem hk)))
  have HST := Lib.hid (vdL_step cs ls limit (xs.map Run.k))
  have HLN := Lib.hid (vdL_len cs ls limit)
  have HKK := Lib.hid (show ∀ k (h : k < xs.length) (h' : k < (xs.map Run.k).length), (xs.map Run.k)[k] = xs[k].k from fun k _ _ => by simp)
  have HLM := Lib.hid (show (xs.map Run.k).length = xs.length by simp)
  obtain ⟨ks, hks⟩ : ∃ ks, ks = xs.map Run.k := ⟨_, rfl⟩
  rw [← hks] at HST HKK HLM
  have HKS := Lib.hid hks
  obtain ⟨LA, LC, rfl, hlc, hlm, _⟩ := HLS.out.open_
  clear hls hks hb3 hB1 hb1 hc1 hc0 row3 row5 hg5 ho5
  go_loopw [11, 32] (fun o i wr => ∃ k : Nat, k ≤ xs.length ∧ i = .int .i64 k ∧ Own w5 3 1 wr o ((vdL cs ls limit (ks.take k)).map ints))
    (fun _ i _ => xs.length - (intOf i).toNat)
  case atStart => exact ⟨0, Nat.zero_le _, rfl, by simpa [vdL] using own0⟩
  case round =>
    clear own0
    obtain ⟨k, hkl, rfl, own⟩ := hrel
    by_cases hlt : k < xs.length
    · obtain ⟨b, off, rfl, hat⟩ := flat_at hk (by omega)
      have hr := rangeAt_below (rangeAt_below (hat k hlt) HB5.out) own.2
      have hkk : k < ks.length := by rw [HLM.out]; exact hlt
      have hst := HST.out k hkk
      rw [HKK.out k hlt hkk] at hst
      have HSZ := Lib.hid (show ((vdL cs ls limit (ks.take k)).map ints).length + 1 ≤ 2147483648 by have h1 := HLN.out (ks.take k); simp at h1 ⊢; omega)
      have HCA := Lib.hid (HC1.out k hlt)
      have HCB := Lib.hid (HC2.out k hlt)
      obtain ⟨cur, hcur⟩ : ∃ cur, cur = vdL cs ls limit (ks.take k) := ⟨_, rfl⟩
      rw [← hcur] at hst HSZ own
      obtain ⟨x, hx⟩ : ∃ x, x = xs[k] := ⟨_, rfl⟩
      rw [← hx] at hr hst HCA HCB
      have HO1 := Lib.hid (own.alloc (.cells #[.int .i64 x.runner, .bool x.started, .bool x.out, .int .i64 x.card.k.number, .int .i64 x.card.k.start, .int .i64 x.card.k.finish, .slice x.card.a x.card.n x.card.c] 53))
      have hrn := Run.rangeNew wr x 53
      obtain ⟨s, hs⟩ : ∃ s, s = stV x.k cs limit := ⟨_, rfl⟩
      obtain ⟨t, ht⟩ : ∃ t, t = stV x.k ls limit := ⟨_, rfl⟩
      rw [← hs, ← ht] at hst
      rw [← hs] at HCA
      rw [← ht] at HCB
      have HCA := Lib.hid (show Calls Try.prog 65 #[.agg #[.int .i64 x.runner, .bool x.started, .bool x.out, .int .i64 x.card.k.number, .int .i64 x.card.k.start, .int .i64 x.card.k.finish, .slice x.card.a x.card.n x.card.c], u, .int .i64 limit] _ _ from HCA.out _ HO1.out.2)
      have HSTP := Lib.hid hst
      clear hat hk hst hcur hx own hs ht
      by_cases hz : s = 0
      · have hz' : (s != 0) = false := by simpa using hz
        go_wp2_with (first
          | ((with_reducible refine at_load_ 53 ?_); refine Run.loadImpl rfl _ rfl b (off + k * 7) rfl _ hr ?_)
          | ((with_reducible refine at_load_ 53 ?_); refine Run.loadImpl rfl _ rfl wr.heap.size 0 rfl _ hrn ?_)
          | (go_at_call 65; refine HCA.out.mono ?_; rintro e w6 ⟨rfl, hb6⟩))
        go_roundw
        case rel => exact ⟨k + 1, by omega, by go_num, by rw [HSTP.out, if_neg (fun h => h.1 hz), List.append_nil]; exact HO1.out.below hb6⟩
        case measure => simp [intOf]; omega
      · have hz' : (s != 0) = true := by simpa using hz
        have HZ := Lib.hid hz
        clear hz
        by_cases ht0 : t = 0
        · have ht' : (t == 0) = true := by simpa using ht0
          have HT := Lib.hid ht0
          clear ht0
          go_wp2_with (first
            | ((with_reducible refine at_load_ 53 ?_); refine Run.loadImpl rfl _ rfl b (off + k * 7) rfl _ hr ?_)
            | ((with_reducible refine at_load_ 53 ?_); refine Run.loadImpl rfl _ rfl wr.heap.size 0 rfl _ hrn ?_)
            | (go_at_call 65; (with_reducible refine HCA.out.mono ?_); rintro e w6 ⟨rfl, hb6⟩; have HO6 := Lib.hid (HO1.out.below hb6); have hrn6 := rangeAt_below hrn hb6; have hcl6 := Run.cells hrn6; simp only [Nat.zero_add] at hcl6)
            | ((with_reducible refine at_load_ 53 ?_); refine Run.loadImpl rfl _ rfl wr.heap.size 0 rfl _ hrn6 ?_)
            | (go_at_call 65; refine (HCB.out _ HO6.out.2).mono ?_; rintro e w7 ⟨rfl, hb7⟩; have HO7 := Lib.hid (HO6.out.below hb7); have hrc := (Run.cells (rangeAt_below hrn6 hb7)).1; have HN := Lib.hid (HO7.out.alloc (.cells #[.int .i64 x.runner] 3)); have HS := Lib.hid (Src.lit w7 3 (ints x.runner) _ rfl rfl (ints_one _)))
            | (at_builtin; refine tyInt.append rfl _ _ rfl w5.heap.size _ _ rfl HN.out.1 _ 1 1 _ rfl HS.out HSZ.out HN.out.2.size ?_; intro o8 w8 hrow8 hg8 _))
          have HB8 := Lib.hid (HN.out.2.grown hg8 HN.out.2.size (fun q hq => (HN.out.1.lt q hq).1))
          go_roundw
          case rel => exact ⟨k + 1, by omega, by go_num, by rw [HSTP.out, if_pos ⟨HZ.out, HT.out⟩, List.map_append]; exact ⟨hrow8, HB8.out⟩⟩
          case measure => simp [intOf]; omega
        · have ht' : (t == 0) = false := by simpa using ht0
          go_wp2_with (first
            | ((with_reducible refine at_load_ 53 ?_); refine Run.loadImpl rfl _ rfl b (off + k * 7) rfl _ hr ?_)
            | ((with_reducible refine at_load_ 53 ?_); refine Run.loadImpl rfl _ rfl wr.heap.size 0 rfl _ hrn ?_)
            | (go_at_call 65; (with_reducible refine HCA.out.mono ?_); rintro e w6 ⟨rfl, hb6⟩; have HO6 := Lib.hid (HO1.out.below hb6); have hrn6 := rangeAt_below hrn hb6; have hcl6 := Run.cells hrn6; simp only [Nat.zero_add] at hcl6)
            | ((with_reducible refine at_load_ 53 ?_); refine Run.loadImpl rfl _ rfl wr.heap.size 0 rfl _ hrn6 ?_)
            | (go_at_call 65; refine (HCB.out _ HO6.out.2).mono ?_; rintro e w7 ⟨rfl, hb7⟩; have HO7 := Lib.hid (HO6.out.below hb7)))
          go_roundw
          case rel => exact ⟨k + 1, by omega, by go_num, by rw [HSTP.out, if_neg (fun h => ht0 h.2), List.append_nil]; exact HO7.out⟩
          case measure => simp [intOf]; omega
    · go_wp2
      go_ret2
      obtain rfl : k = xs.length := by omega
      have e1 : ks.take xs.length = ks := by rw [← HLM.out]; exact List.take_length
      rw [e1, HLSE.out, HKS.out] at own
      exact ⟨_, rfl, own.1.mono HB5.out.size, step_ HB5.out (Nat.le_refl _) own.2⟩
set_option maxRecDepth 100000 in
set_option maxHeartbeats 4000000 in
theorem spec_VoidCode (xs : List Run) (ks : List RunK) (v : Value) (cs : List Int) (u : Value) (limit code : Int) (w : World) (hks : xs.map Run.k = ks) (h : RunS w v xs) (hs : Sl (Flat ints) 1 w u cs) (_ : ∀ x ∈ cs, I64 x) (_ : I64 limit) (_ : I64 code) :
    Calls Try.prog 37 #[v, u, .int .i64 limit, .int .i64 code] w fun e w' => ∃ r, e = .returned (.tuple #[r, .bool (askV ks cs limit code)]) ∧ Row w.heap.size 3 1 w' r ((voidV ks cs limit code).map ints) ∧ Below w.heap.size w w' := by
  subst hks
  have hW : Below w.heap.size w (w.alloc (.cells #[] 3)) := below_alloc (Below.refl _ _) _
  have HAS := Lib.hid (l15Asked_any xs cs limit v u _ (h.below hW) (hs.below (Flat.keeps _) hW))
  have HW := Lib.hid hW
  by_cases ha : askR (xs.map Run.k) cs limit = true
  rotate_left
  · have ha' : askR (xs.map Run.k) cs limit = false := by simpa using ha
    have HV := Lib.hid (show voidV (xs.map Run.k) cs limit code = [] by simp [voidV, askV, ha'])
    have HA := Lib.hid (show askV (xs.map Run.k) cs limit code = false by simp [askV, ha'])
    rw [ha'] at HAS
    rw [HV.out, HA.out]
    clear ha ha' h hs hW
    go_enter Try.func37, Try.ntmps37
    go_wp2_with (go_at_call 62; refine HAS.out.mono ?_; rintro e w1 ⟨rfl, hb1⟩)
    go_ret2
    exact ⟨_, rfl, Row.below (Row.lit_nil w 3 1 (Nat.le_refl _)) hb1, step_ HW.out (Nat.le_refl _) hb1⟩
  have HCT := Lib.hid (fun W (hW : Below w.heap.size w W) => l1Has_any cs u code W (hs.below (Flat.keeps _) hW))
  rw [ha] at HAS
  by_cases hq : (cs.any fun y => code == y) = true
  rotate_left
  · have hq' : (cs.any fun y => code == y) = false := (Bool.not_eq_true _).mp hq
    have HV := Lib.hid (show voidV (xs.map Run.k) cs limit code = [] by simp only [voidV, askV, hq', Bool.and_false]; rfl)
    have HA := Lib.hid (show askV (xs.map Run.k) cs limit code = false by simp only [askV, hq', Bool.and_false])
    rw [hq'] at HCT
    rw [HV.out, HA.out]
    clear hq hq' ha h hs hW
    go_enter Try.func37, Try.ntmps37
    go_wp2_with (first
      | (go_at_call 62; refine HAS.out.mono ?_; rintro e w1 ⟨rfl, hb1⟩)
      | (go_at_call 72; refine (HCT.out _ (step_ HW.out (Nat.le_refl _) hb1)).mono ?_; rintro e w2 ⟨rfl, rfl⟩))
    go_ret2
    exact ⟨_, rfl, Row.below (Row.lit_nil w 3 1 (Nat.le_refl _)) hb1, step_ HW.out (Nat.le_refl _) hb1⟩
  obtain ⟨hg, hco, hl1, hl2⟩ := askR_parts ha
  have hlen := codesOk_len hco
  have hxl := goodRs_len hg
  have HOK := Lib.hid (goodRs_ok hg)
  have HV := Lib.hid (show voidV (xs.map Run.k) cs limit code = vdL cs (lessC cs code) limit (xs.map Run.k) by simp only [voidV, askV, hq, ha]; rfl)
  have HA := Lib.hid (show askV (xs.map Run.k) cs limit code = true by simp only [askV, hq, ha]; rfl)
  have HRS := Lib.hid h
  have HSS := Lib.hid hs
  rw [hq] at HCT
  rw [HV.out, HA.out]
  obtain ⟨A, c, rfl, hc, hm, hk⟩ := h.1.open_
  clear hq ha h hs hW hg hco
  go_enter Try.func37, Try.ntmps37
  go_wp2_with (first
    | (go_at_call 62; refine HAS.out.mono ?_; rintro e w1 ⟨rfl, hb1⟩; have hB1 := step_ HW.out (Nat.le_refl _) hb1)
    | (go_at_call 72; refine (HCT.out _ (step_ HW.out (Nat.le_refl _) hb1)).mono ?_; rintro e w2 ⟨rfl, rfl⟩))
  have HOW := Lib.hid (show Own w 3 1 w1 (.slice (some ⟨w.heap.size, 0, none⟩) 0 0) [] from (Own.nil (Below.refl _ _) _ rfl).below hb1)
  have ownL : Own w1 3 1 (w1.alloc (.cells #[] 3)) (.slice (some ⟨w1.heap.size, 0, none⟩) 0 0) [] := Own.nil (Below.refl _ _) _ rfl
  have HB1 := Lib.hid hB1
  have HLT := Lib.hid (show w.heap.size < w1.heap.size from Nat.lt_of_lt_of_le (by simp) hb1.size)
  obtain ⟨UA, UC, rfl, huc, hum, huk⟩ := HSS.out.open_
  have HLST := Lib.hid (lessC_step cs code)
  clear hB1 hb1
  go_loopw [11, 12] (fun l i wr => ∃ k : Nat, k ≤ cs.length ∧ i = .int .i64 k ∧ Own w1 3 1 wr l ((lessC (cs.take k) code).map ints))
    (fun _ i _ => cs.length - (intOf i).toNat)
  case atStart => exact ⟨0, Nat.zero_le _, rfl, by simpa [lessC] using ownL⟩
  case round =>
    clear ownL
    obtain ⟨k, hkl, rfl, own⟩ := hrel
    by_cases hlt : k < cs.length
    · obtain ⟨b, off, rfl, hat⟩ := flat_at huk (by omega)
      have hr := int_at (rangeAt_below (hat k hlt) (step_ HB1.out (Nat.le_refl _) own.2))
      rw [Nat.mul_one] at hr
      have hst := HLST.out k hlt
      have HSZ := Lib.hid (show ((lessC (cs.take k) code).map ints).length + 1 ≤ 2147483648 by have h1 := lessC_len (cs.take k) code; simp at h1 ⊢; omega)
      obtain ⟨cur, hcur⟩ : ∃ cur, cur = lessC (cs.take k) code := ⟨_, rfl⟩
      rw [← hcur] at hst HSZ own
      obtain ⟨x, hx⟩ : ∃ x, x = cs[k] := ⟨_, rfl⟩
      rw [← hx] at hr hst
      have HSTP := Lib.hid hst
      have HO1 := Lib.hid own
      clear hat huk hst hcur hx own
      by_cases hz : x = code
      · have hz' : (x != code) = false := by simpa using hz
        have HZ := Lib.hid hz
        clear hz
        go_wp2
        go_roundw
        case rel => exact ⟨k + 1, by omega, by go_num, by rw [HSTP.out, if_pos HZ.out, List.append_nil]; exact HO1.out⟩
        case measure => simp [intOf]; omega
      · have hz' : (x != code) = true := by simpa using hz
        have HZ := Lib.hid hz
        have HN := Lib.hid (HO1.out.alloc (.cells #[.int .i64 x] 3))
        have HS := Lib.hid (Src.lit wr 3 (ints x) _ rfl rfl (ints_one _))
        clear hz
        go_wp2_with (at_builtin; refine tyInt.append rfl _ _ rfl w1.heap.size _ _ rfl HN.out.1 _ 1 1 _ rfl HS.out HSZ.out HN.out.2.size ?_; intro o8 w8 hrow8 hg8 _)
        have HB8 := Lib.hid (HN.out.2.grown hg8 HN.out.2.size (fun q hq => (HN.out.1.lt q hq).1))
        go_roundw
        case rel => exact ⟨k + 1, by omega, by go_num, by rw [HSTP.out, if_neg HZ.out, List.map_append]; exact ⟨hrow8, HB8.out⟩⟩
        case measure => simp [intOf]; omega
    · obtain rfl : k = cs.length := by omega
      rw [List.take_length] at own
      obtain ⟨ls, hls⟩ : ∃ ls, ls = lessC cs code := ⟨_, rfl⟩
      have HLL := Lib.hid (lessC_len cs code)
      have HLSE := Lib.hid hls
      rw [← hls] at own HLL
      obtain ⟨LA, LC, rfl, hlc, hlm⟩ := own.1.parts
      have HOL := Lib.hid own.1
      have HW5 := Lib.hid (HOW.out.below own.2)
      have HSZ5 := Lib.hid own.2.size
      simp only [List.length_map] at hlc HOL ⊢
      have HLN1 := Lib.hid (show (Value.slice LA ls.length LC).ownBlock = none ∨ (Value.slice LA ls.length LC).ownBlock ≠ (Value.slice (some ⟨w.heap.size, 0, none⟩) 0 0).ownBlock from .inr (fun e => by have := (HOL.out.lt w.heap.size e).1; have := HLT.out; omega))
      have HLT5 := Lib.hid (show ∀ q, (Value.slice LA ls.length LC).ownBlock = some q → q < wr.heap.size from fun q hq => (HOL.out.lt q hq).2)
      have HC1 := Lib.hid (fun k (hk : k < xs.length) W (hW : Below w.heap.size w W) => l15Status_any xs[k] cs _ limit W ((HRS.out.2 _ (List.getElem_mem hk)).below hW) (HSS.out.below (Flat.keeps _) hW) (by omega) (HOK.out _ (List.getElem_mem hk)))
      have HC2 := Lib.hid (fun k (hk : k < xs.length) W (hW : Below w.heap.size w W) (hl : Sl (Flat ints) 1 W (.slice LA ls.length LC) ls) => l15Status_any xs[k] ls _ limit W ((HRS.out.2 _ (List.getElem_mem hk)).below hW) hl (by have := HLL.out; omega) (HOK.out _ (List.getElem_mem hk)))
      have HST := Lib.hid (vdL_step cs ls limit (xs.map Run.k))
      have HLN := Lib.hid (vdL_len cs ls limit)
      have HKK := Lib.hid (show ∀ k (h : k < xs.length) (h' : k < (xs.map Run.k).length), (xs.map Run.k)[k] = xs[k].k from fun k _ _ => by simp)
      have HLM := Lib.hid (show (xs.map Run.k).length = xs.length by simp)
      obtain ⟨ks, hks⟩ : ∃ ks, ks = xs.map Run.k := ⟨_, rfl⟩
      rw [← hks] at HST HKK HLM
      have HKS := Lib.hid hks
      obtain ⟨N5, hN5⟩ : ∃ N5, N5 = wr.heap.size := ⟨_, rfl⟩
      rw [← hN5] at HLT5
      have HNE := Lib.hid hN5
      clear hls hks own hlt huk hN5
      go_wp2
      go_loopw [10, 13] (fun o i wr => ∃ k : Nat, k ≤ xs.length ∧ i = .int .i64 k ∧ N5 ≤ wr.heap.size ∧ Row w1.heap.size 3 1 wr (.slice LA ls.length LC) (ls.map ints) ∧ Hid ((Value.slice LA ls.length LC).ownBlock = none ∨ (Value.slice LA ls.length LC).ownBlock ≠ o.ownBlock) ∧ Own w 3 1 wr o ((vdL cs ls limit (ks.take k)).map ints))
        (fun _ i _ => xs.length - (intOf i).toNat)
      case atStart => exact ⟨0, Nat.zero_le _, rfl, Nat.le_of_eq HNE.out, HOL.out, HLN1.out, by simpa [vdL] using HW5.out⟩
      case round =>
        clear HOL HW5 HNE HLN1
        obtain ⟨k, hkl, rfl, hsz, hlrow, HNO, own⟩ := hrel
        by_cases hlt : k < xs.length
        · obtain ⟨b, off, rfl, hat⟩ := flat_at hk (by omega)
          have hr := rangeAt_below (hat k hlt) own.2
          have HAT := Lib.hid (hat k hlt)
          have hkk : k < ks.length := by rw [HLM.out]; exact hlt
          have hst := HST.out k hkk
          rw [HKK.out k hlt hkk] at hst
          have HSZ := Lib.hid (show ((vdL cs ls limit (ks.take k)).map ints).length + 1 ≤ 2147483648 by have h1 := HLN.out (ks.take k); simp at h1 ⊢; omega)
          have HCA := Lib.hid (HC1.out k hlt)
          have HCB := Lib.hid (HC2.out k hlt)
          obtain ⟨cur, hcur⟩ : ∃ cur, cur = vdL cs ls limit (ks.take k) := ⟨_, rfl⟩
          rw [← hcur] at hst HSZ own
          obtain ⟨x, hx⟩ : ∃ x, x = xs[k] := ⟨_, rfl⟩
          rw [← hx] at hr hst HCA HCB HAT
          have HO1 := Lib.hid own
          have HLR := Lib.hid hlrow
          obtain ⟨s, hs⟩ : ∃ s, s = stV x.k cs limit := ⟨_, rfl⟩
          obtain ⟨t, ht⟩ : ∃ t, t = stV x.k ls limit := ⟨_, rfl⟩
          rw [← hs, ← ht] at hst
          rw [← hs] at HCA
          rw [← ht] at HCB
          have HCA := Lib.hid (show Calls Try.prog 63 #[.agg #[.int .i64 x.runner, .bool x.started, .bool x.out, .int .i64 x.card.k.number, .int .i64 x.card.k.start, .int .i64 x.card.k.finish, .slice x.card.a x.card.n x.card.c], _, .int .i64 limit] _ _ from HCA.out _ HO1.out.2)
          have HSTP := Lib.hid hst
          clear hat hk hst hcur hx own hs ht hlrow
          by_cases hz : s = 0
          · have hz' : (s != 0) = false := by simpa using hz
            go_wp2_with (first
              | ((with_reducible refine at_load_ 53 ?_); refine Run.loadImpl rfl _ rfl b (off + k * 7) rfl _ hr ?_)
              | (go_at_call 63; refine HCA.out.mono ?_; rintro e w6 ⟨rfl, hb6⟩))
            have hs6 := hb6.size
            go_roundw
            case rel => exact ⟨k + 1, by omega, by go_num, by omega, HLR.out.below hb6, HNO.out, by rw [HSTP.out, if_neg (fun h => h.1 hz), List.append_nil]; exact HO1.out.below hb6⟩
            case measure => simp [intOf]; omega
          · have hz' : (s != 0) = true := by simpa using hz
            have HZ := Lib.hid hz
            clear hz
            by_cases ht0 : t = 0
            · have ht' : (t == 0) = true := by simpa using ht0
              have HT := Lib.hid ht0
              clear ht0
              go_wp2_with (first
                | ((with_reducible refine at_load_ 53 ?_); refine Run.loadImpl rfl _ rfl b (off + k * 7) rfl _ hr ?_)
                | (go_at_call 63; (with_reducible refine HCA.out.mono ?_); rintro e w6 ⟨rfl, hb6⟩; have HO6 := Lib.hid (HO1.out.below hb6); have HLR6 := Lib.hid (HLR.out.below hb6); have hcl6 := Run.cells (rangeAt_below HAT.out HO6.out.2))
                | (go_at_call 63; refine (HCB.out _ HO6.out.2 (Sl.of_flat HLR6.out)).mono ?_; rintro e w7 ⟨rfl, hb7⟩; have HO7 := Lib.hid (HO6.out.below hb7); have HLR7 := Lib.hid (HLR6.out.below hb7); have hrc := (Run.cells (rangeAt_below HAT.out HO7.out.2)).1; have HN := Lib.hid (HO7.out.alloc (.cells #[.int .i64 x.runner] 3)); have HS := Lib.hid (Src.lit w7 3 (ints x.runner) _ rfl rfl (ints_one _)))
                | (at_builtin; refine tyInt.append rfl _ _ rfl w.heap.size _ _ rfl HN.out.1 _ 1 1 _ rfl HS.out HSZ.out HN.out.2.size ?_; intro o8 w8 hrow8 hg8 hat8))
              have HB8 := Lib.hid (HN.out.2.grown hg8 HN.out.2.size (fun q hq => (HN.out.1.lt q hq).1))
              have HR8 := Lib.hid (Row.kept (HLR7.out.alloc (.cells #[.int .i64 x.runner] 3)) hg8 HNO.out)
              have hs8 : N5 ≤ w8.heap.size := Nat.le_trans hsz (Nat.le_trans hb6.size (Nat.le_trans hb7.size (Nat.le_trans (by simp) hg8.size)))
              have HN8 := Lib.hid (show (Value.slice LA ls.length LC).ownBlock = none ∨ (Value.slice LA ls.length LC).ownBlock ≠ o8.ownBlock from by
                rcases hat8 with h | h
                · rw [h]; exact HNO.out
                · refine .inr (fun e => ?_)
                  rw [h] at e
                  have h1 := HLT5.out _ e
                  have h2 := hb6.size
                  have h3 := hb7.size
                  simp at h1
                  omega)
              go_roundw
              case rel => exact ⟨k + 1, by omega, by go_num, hs8, HR8.out, HN8.out, by rw [HSTP.out, if_pos ⟨HZ.out, HT.out⟩, List.map_append]; exact ⟨hrow8, HB8.out⟩⟩
              case measure => simp [intOf]; omega
            · have ht' : (t == 0) = false := by simpa using ht0
              go_wp2_with (first
                | ((with_reducible refine at_load_ 53 ?_); refine Run.loadImpl rfl _ rfl b (off + k * 7) rfl _ hr ?_)
                | (go_at_call 63; (with_reducible refine HCA.out.mono ?_); rintro e w6 ⟨rfl, hb6⟩; have HO6 := Lib.hid (HO1.out.below hb6); have HLR6 := Lib.hid (HLR.out.below hb6); have hcl6 := Run.cells (rangeAt_below HAT.out HO6.out.2))
                | (go_at_call 63; refine (HCB.out _ HO6.out.2 (Sl.of_flat HLR6.out)).mono ?_; rintro e w7 ⟨rfl, hb7⟩; have HO7 := Lib.hid (HO6.out.below hb7); have HLR7 := Lib.hid (HLR6.out.below hb7)))
              have hs6 := hb6.size
              have hs7 := hb7.size
              go_roundw
              case rel => exact ⟨k + 1, by omega, by go_num, by omega, HLR7.out, HNO.out, by rw [HSTP.out, if_neg (fun h => ht0 h.2), List.append_nil]; exact HO7.out⟩
              case measure => simp [intOf]; omega
        · go_wp2
          go_ret2
          obtain rfl : k = xs.length := by omega
          have e1 : ks.take xs.length = ks := by rw [← HLM.out]; exact List.take_length
          rw [e1, HLSE.out, HKS.out] at own
          exact ⟨_, rfl, own.1, own.2⟩
end Go.Proofs.Ytojpklpfnmjikaa
