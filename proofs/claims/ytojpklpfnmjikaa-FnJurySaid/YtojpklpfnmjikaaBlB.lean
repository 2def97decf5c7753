/- BestLegs, the reference's. No condition. -/
import Derived.Test.YtojpklpfnmjikaaBlA
import Derived.Test.YtojpklpfnmjikaaReC
namespace Go.Proofs.Ytojpklpfnmjikaa
open Go Go.RowKit

theorem okL_filter (cs : List Int) (limit : Int) (xs : List Run) : okL cs limit (xs.map Run.k) = (xs.filter fun p => okR cs limit p.k).map Run.k := by
  unfold okL
  rw [List.filter_map]
  rfl
def bestsN (cs : List Int) (l : List RunK) (i : Nat) : List Int := (List.range i).map fun j => bestI cs j l
theorem bestsN_snoc (cs : List Int) (l : List RunK) (i : Nat) : bestsN cs l (i + 1) = bestsN cs l i ++ [bestI cs i l] := by simp [bestsN, List.range_succ]
set_option maxRecDepth 100000 in
set_option maxHeartbeats 16000000 in
theorem spec_BestLegs (xs : List Run) (ks : List RunK) (v : Value) (cs : List Int) (u : Value) (limit : Int) (w : World) (hks : xs.map Run.k = ks) (h : RunS w v xs) (hs : Sl (Flat ints) 1 w u cs) (_ : ∀ x ∈ cs, I64 x) (_ : I64 limit) :
    Calls Try.prog 35 #[v, u, .int .i64 limit] w fun e w' => ∃ r, e = .returned (.tuple #[r, .bool (blB ks cs limit)]) ∧ Row w.heap.size 3 1 w' r ((blV ks cs limit).map ints) ∧ Below w.heap.size w w' := by
  subst hks
  have HAS := Lib.hid (l15Asked_any xs cs limit v u w h hs)
  have HB := Lib.hid (Below.refl w.heap.size w)
  by_cases ha : askR (xs.map Run.k) cs limit = true
  rotate_left
  · have ha' : askR (xs.map Run.k) cs limit = false := by simpa using ha
    have HV := Lib.hid (blV_no ha')
    rw [ha'] at HAS
    rw [HV.out.1, HV.out.2]
    clear ha ha' h hs
    go_enter Try.func35, Try.ntmps35
    go_wp2_with fail
    refine (HAS.out).mono ?_
    rintro e w' ⟨rfl, hb⟩
    replace HB := Lib.hid (step_ HB.out (Nat.le_refl _) hb)
    go_wp2_with fail
    go_ret2
    exact ⟨_, rfl, Row.lit_nil _ 3 1 HB.out.size, below_alloc HB.out _⟩
  obtain ⟨hg, hco, hl1, hl2⟩ := askR_parts ha
  have hlen := codesOk_len hco
  have hxl := goodRs_len hg
  have HOK := Lib.hid (fun W (hW : Below w.heap.size w W) => l15Ok_any xs v cs u limit W (h.below hW) (hs.below (Flat.keeps _) hW) (by omega) (goodRs_ok hg) (by omega))
  have HFS := Lib.hid (okL_filter cs limit xs)
  have HYP := Lib.hid (show ∀ p ∈ (xs.filter fun p => okR cs limit p.k), stV p.k cs limit = 0 ∧ runOk p.k = true ∧ p.card.In w from fun p hp => by
    obtain ⟨h1, h2⟩ := List.mem_filter.1 hp
    exact ⟨by simpa [okR] using h2, goodRs_ok hg p h1, h.2 p h1⟩)
  have HYL := Lib.hid (show (xs.filter fun p => okR cs limit p.k).length ≤ 10 from Nat.le_trans (List.length_filter_le _ _) hxl)
  have HVN := Lib.hid (fun hh => blV_none (ks := xs.map Run.k) (cs := cs) (limit := limit) hh)
  have HVY := Lib.hid (fun hh => blV_yes ha hh)
  have HS := Lib.hid hs
  rw [ha] at HAS
  rw [HFS.out] at HVN HVY
  generalize (xs.filter fun p => okR cs limit p.k) = ys at *
  obtain ⟨bb, hbb⟩ : ∃ b, blB (xs.map Run.k) cs limit = b := ⟨_, rfl⟩
  obtain ⟨vv, hvv⟩ : ∃ b, blV (xs.map Run.k) cs limit = b := ⟨_, rfl⟩
  rw [hbb, hvv] at HVN HVY ⊢
  obtain ⟨UA, uc, rfl, huc, hucm, -⟩ := hs.open_
  clear ha hg hco h hs hbb hvv HFS
  go_enter Try.func35, Try.ntmps35
  go_wp2_with fail
  refine (HAS.out).mono ?_
  rintro e w' ⟨rfl, hb⟩
  replace HB := Lib.hid (step_ HB.out (Nat.le_refl _) hb)
  clear hb HAS
  go_wp2_with fail
  refine (HOK.out _ HB.out).mono ?_
  rintro e w' ⟨r0, rfl, row0, hb⟩
  replace HB := Lib.hid (step_ HB.out (Nat.le_refl _) hb)
  obtain ⟨A0, c0, rfl, -, -⟩ := row0.parts
  simp only [List.length_map] at row0 ⊢
  clear row0 hb
  by_cases h0 : 0 < ys.length
  rotate_left
  · have h00 : ((ys.length : Int) == 0) = true := beq_iff_eq.2 (by omega)
    obtain ⟨ev, eb⟩ := HVN.out (by simpa using h0)
    subst ev
    subst eb
    clear h0
    go_wp2_with fail
    go_ret2
    exact ⟨_, rfl, Row.lit_nil _ 3 1 HB.out.size, below_alloc HB.out _⟩
  have h00 : ((ys.length : Int) == 0) = false := by rw [beq_eq_false_iff_ne]; omega
  obtain ⟨ev, eb⟩ := HVY.out (by simpa using h0)
  have HEV := Lib.hid ev
  subst eb
  clear ev HVY HVN
  go_wp2_with fail
  refine (HOK.out _ HB.out).mono ?_
  rintro e w' ⟨r1, rfl, row1, hb⟩
  replace HB := Lib.hid (step_ HB.out (Nat.le_refl _) hb)
  obtain ⟨g, cap, rfl, hbg, hgl, hcap⟩ := row1.form (by simpa using h0)
  simp only [List.length_map] at row1 hcap ⊢
  have HROW := Lib.hid row1
  clear row1 hb HOK hbg hgl h00
  have own0 : Own w' 3 1 (w'.alloc (.cells #[] 3)) (.slice (some ⟨w'.heap.size, 0, none⟩) 0 0) ((bestsN cs (ys.map Run.k) 0).map ints)   := Own.nil (Below.refl _ _) _ rfl
  go_upto_block 0 with fail
  go_wp2_with fail
  go_loopw [9, 10] (fun o iv wr => ∃ i : Nat, i ≤ cs.length ∧ iv = .int .i64 i ∧ Hid (Own w' 3 1 wr o ((bestsN cs (ys.map Run.k) i).map ints)))
    (fun _ iv _ => cs.length - (intOf iv).toNat)
  case atStart => exact ⟨0, Nat.zero_le _, rfl, own0⟩
  case round =>
    clear own0
    obtain ⟨i, hil, rfl, HO⟩ := hrel
    have HBL := Lib.hid HO.out.2
    by_cases hi : i < cs.length
    · have hii : (i : Int) < (cs.length : Int) := by omega
      have hi0 : (0 : Int) ≤ (i : Int) := by omega
      go_upto_block 2 with fail
      go_cut [11] (fun lv wx => lv = .int .i64 (bestI cs i (ys.map Run.k)) ∧ Hid (Below wr.heap.size wr wx))
      case first =>
        go_wp2_with fail
        go_loopw [11, 12] (fun lv kv wi => ∃ k : Nat, k ≤ ys.length ∧ kv = .int .i64 k ∧ lv = .int .i64 (bestI cs i ((ys.map Run.k).take k)) ∧ Hid (Below wr.heap.size wr wi))
          (fun _ kv _ => ys.length - (intOf kv).toNat)
        case atStart => exact ⟨0, Nat.zero_le _, rfl, rfl, Below.refl _ _⟩
        case round =>
          obtain ⟨k, hkl, rfl, rfl, HBI⟩ := hrel
          by_cases hk : k < ys.length
          · have hkk : (k : Int) < (ys.length : Int) := by omega
            have hk0 : (0 : Int) ≤ (k : Int) := by omega
            have HBW := Lib.hid (step_ HBL.out (Nat.le_refl _) HBI.out)
            have HBT := Lib.hid (step_ HB.out (Nat.le_refl _) HBW.out)
            obtain ⟨q1, q2, q3⟩ := HYP.out _ (List.getElem_mem hk)
            have HTK := Lib.hid (bestI_take cs i (ys.map Run.k) k (by simpa using hk))
            simp only [List.getElem_map] at HTK
            have hrg := (HROW.out.below HBW.out).range (k := k) (by simpa using hk)
            simp only [List.getElem_map] at hrg
            obtain ⟨x, hx⟩ : ∃ x, ys[k] = x := ⟨_, rfl⟩
            rw [hx] at q1 q2 q3 HTK hrg
            clear hx
            have HXI := Lib.hid q3
            have htm := timeI_small q1 q2 hi
            have hfm := fromI_small q1 q2 hi
            have HFD := Lib.hid (fun j hj => ok_found q1 j hj)
            have hcd := Run.cardRange hrg
            have HRG := Lib.hid hrg
            clear q1 q2 q3
            go_wp2_with ((with_reducible refine at_load_ 51 ?_); refine Card.loadImpl rfl _ rfl g (k * 7 + 3) rfl x.card hcd ?_)
            refine (l12Found_any x.card cs _ wr (HXI.out.below HBT.out) (HS.out.below (Flat.keeps _) HBT.out) (by omega)).mono ?_
            rintro e w5 ⟨fv, rfl, row5, hb5⟩
            obtain ⟨fg, fc, rfl, -, -, -⟩ := row5.form (by simp [found_len]; omega)
            have hfl := found_len x.card.k.punches cs
            simp only [List.length_map] at row5 ⊢
            rw [hfl] at row5 ⊢
            have hin5 := (HXI.out.below HBT.out).below hb5
            have hrg5 := rangeAt_below HRG.out hb5
            obtain ⟨pn, hpn⟩ : ∃ pn, x.card.k.punches.length = pn := ⟨_, rfl⟩
            have HFA := Lib.hid (show ∀ W, Below w5.heap.size w5 W → ∀ j, j < cs.length → ∃ (a pb po : Nat), a < pn ∧ W.cell? ⟨g, k * 7 + 6, none⟩ = some (.slice (some ⟨pb, po, none⟩) pn x.card.c) ∧ W.cell? ⟨fg, j, none⟩ = some (.int .i64 (a : Int)) ∧ W.cell? ⟨pb, po + a * 2 + 1, none⟩ = some (.int .i64 (timeI x.k cs j)) from fun W hW j hj => by
              obtain ⟨a, ha, hfa⟩ := HFD.out j hj
              have hinW := hin5.below hW
              obtain ⟨pb, po, hpa, hpc⟩ := Card.punch hinW ha
              have hsl := (Run.cells (rangeAt_below hrg5 hW)).2.2.2.2.2.2
              rw [hpa, hinW.len, hpn] at hsl
              have hfc2 := cell_ints (row5.below hW) (k := j) (by rw [hfl]; exact hj)
              have hfe : (foundL x.card.k.punches cs)[j]'(by rw [hfl]; exact hj) = (a : Int) := by
                have hfa' : (foundL x.card.k.punches cs)[j]? = some (a : Int) := hfa
                rw [List.getElem?_eq_getElem (by rw [hfl]; exact hj)] at hfa'
                exact Option.some.inj hfa'
              rw [hfe] at hfc2
              have hpt : x.card.k.punches[a].time = timeI x.k cs j := (timeI_at (k := x.k) ha hfa).symm
              rw [hpt] at hpc
              exact ⟨a, pb, po, by rw [← hpn]; exact ha, hsl, hfc2, hpc⟩)
            have hst := (Run.cells hrg5).2.2.2.2.1
            replace HBI := Lib.hid (step_ HBI.out (Nat.le_refl _) hb5)
            clear hrg5 hin5 row5 hb5 hcd hrg hpn HFD HXI HRG hfl
            have HT := Lib.hid htm
            have HFM := Lib.hid hfm
            have HLG := Lib.hid (show legI x.k cs i = timeI x.k cs i - fromI x.k cs i from rfl)
            have HF0 := Lib.hid (show i = 0 → x.card.k.start = fromI x.k cs i from fun e => by subst e; rfl)
            have HF1 := Lib.hid (show 0 < i → timeI x.k cs (i - 1) = fromI x.k cs i from fun e => by unfold fromI; rw [if_neg (by omega)])
            obtain ⟨fr, hfr⟩ : ∃ fr, fromI x.k cs i = fr := ⟨_, rfl⟩
            rw [hfr] at HFM HLG HF0 HF1
            clear hfr htm hfm
            go_upto_if 60 with fail
            clear hst
            go_cut [14] (fun fv wx => fv = .int .i64 fr ∧ Hid (Below w5.heap.size w5 wx))
            case first =>
              by_cases hip : 0 < i
              · have hipi : (0 : Int) < (i : Int) := by omega
                have hwi : IntKind.i64.wrap ((i : Int) - 1) = ((i - 1 : Nat) : Int) := by rw [IntKind.wrap_i64]; omega
                obtain ⟨a, pb, po, hapn, h1, h2, h3⟩ := HFA.out w5 (Below.refl _ _) (i - 1) (by omega)
                rw [HF1.out hip] at h3
                have hj1 : ((i - 1 : Nat) : Int) < (cs.length : Int) := by omega
                have hj0 : (0 : Int) ≤ ((i - 1 : Nat) : Int) := by omega
                have ha1 : (a : Int) < (pn : Int) := by omega
                have ha0 : (0 : Int) ≤ (a : Int) := by omega
                have g1 := After.keep h1
                have g2 := After.keep h2
                have g3 := After.keep h3
                clear h1 h2 h3
                go_wp2_with fail
                refine region_after (by kernel_rfl) (by kernel_rfl) ?_
                repeat (any_goals (first | go_big_quiet_step (fail)  | quiet_step (fail) | (refine wpQuiet_step (fun K hK => ?_); go_simp; split <;> (refine hK _ ?_; clear hK K))))
                all_goals (refine wpQuiet_nil ?_; intro s)
                go_wp2_with fail
                go_meet
                exact ⟨rfl, Lib.hid s.hb⟩
              · have hipi : ¬ (0 : Int) < (i : Int) := by omega
                have e := HF0.out (by omega)
                rw [e]
                go_wp2_with fail
                go_meet
                exact ⟨rfl, Lib.hid (Below.refl _ _)⟩
            case rest =>
              obtain ⟨rfl, HB5⟩ := hcut
              have hyl := HYL.out
              obtain ⟨a, pb, po, hapn, h1, h2, h3⟩ := HFA.out wc HB5.out i hi
              have ha1 : (a : Int) < (pn : Int) := by omega
              have ha0 : (0 : Int) ≤ (a : Int) := by omega
              obtain ⟨tm, htm⟩ : ∃ tm, timeI x.k cs i = tm := ⟨_, rfl⟩
              rw [htm] at h3 HT HLG
              have hwt : IntKind.i64.wrap (tm - fr) = tm - fr := by rw [IntKind.wrap_i64]; have := HT.out; have := HFM.out; omega
              have g1 := After.keep h1
              have g2 := After.keep h2
              have g3 := After.keep h3
              have HTK2 := Lib.hid (HTK.out.trans (by rw [HLG.out]))
              obtain ⟨be, hbe⟩ : ∃ be, bestI cs i ((ys.map Run.k).take k) = be := ⟨_, rfl⟩
              rw [hbe] at HTK2 ⊢
              clear h1 h2 h3 htm hbe HTK
              go_wp2_with fail
              refine region_after (by kernel_rfl) (by kernel_rfl) ?_
              repeat (any_goals (first | go_big_quiet_step ((go_at_call 69; exact Calls.after_same (v := .int .i64 (min be (tm - fr))) _ (l1Least_any be (tm - fr) _)))  | quiet_step ((go_at_call 69; exact Calls.after_same (v := .int .i64 (min be (tm - fr))) _ (l1Least_any be (tm - fr) _))) | (refine wpQuiet_step (fun K hK => ?_); go_simp; split <;> (refine hK _ ?_; clear hK K))))
              all_goals (refine wpQuiet_nil ?_; intro s)
              go_wp2_with fail
              go_roundw
              case rel => exact ⟨k + 1, by omega, by go_num, by rw [HTK2.out], step_ HBI.out (Nat.le_refl _) (step_ HB5.out (Nat.le_refl _) s.hb)⟩
              case measure => simp [intOf]; omega
          · obtain rfl : k = ys.length := by omega
            have hkk : ¬ (ys.length : Int) < (ys.length : Int) := by omega
            go_wp2_with fail
            go_meet
            exact ⟨by rw [List.take_of_length_le (by simp)], HBI⟩
      case rest =>
        obtain ⟨rfl, HBI⟩ := hcut
        replace HO := Lib.hid (HO.out.below HBI.out)
        replace HBL := Lib.hid (step_ HBL.out (Nat.le_refl _) HBI.out)
        have HLL := Lib.hid (show ((bestsN cs (ys.map Run.k) i).map ints).length + 1 ≤ 2147483648 by simp [bestsN]; omega)
        generalize hbe : bestI cs i (ys.map Run.k) = y
        have HBE := Lib.hid hbe
        clear hbe
        have hsz : w'.heap.size ≤ (wc.alloc (.cells #[.int .i64 y] 3)).heap.size := by have := HO.out.2.size; simp; omega
        have hsrc : Src (wc.alloc (.cells #[.int .i64 y] 3)) 1 (some ⟨wc.heap.size, 0, none⟩) 1 [ints y] := Src.lit wc 3 (ints y) wc.heap.size rfl rfl (ints_one _)
        have hrowa := (HO.out.alloc (.cells #[.int .i64 y] 3)).1
        go_wp2_with (at_builtin; refine tyInt.append rfl _ _ rfl w'.heap.size u9 _ rfl hrowa _ 1 1 [ints y] rfl hsrc HLL.out hsz ?_; intro o4 w4 hrow4 hg4 hat4)
        have HO4 := Lib.hid (show Own w' 3 1 w4 o4 ((bestsN cs (ys.map Run.k) (i + 1)).map ints) from ⟨by rw [bestsN_snoc, HBE.out]; simpa using hrow4, (HO.out.alloc (.cells #[.int .i64 y] 3)).2.grown hg4 (HO.out.alloc (.cells #[.int .i64 y] 3)).2.size (fun q hq => (hrowa.lt q hq).1)⟩)
        clear hrow4 hg4 hat4 hrowa hsrc hsz
        go_roundw
        case rel => exact ⟨i + 1, by omega, by go_num, HO4.out⟩
        case measure => simp [intOf]; omega
    · obtain rfl : i = cs.length := by omega
      have hii : ¬ (cs.length : Int) < (cs.length : Int) := by omega
      go_wp2_with fail
      go_ret2
      exact ⟨_, rfl, by rw [HEV.out]; exact HO.out.1.mono HB.out.size, step_ HB.out (Nat.le_refl _) HO.out.2⟩
end Go.Proofs.Ytojpklpfnmjikaa
