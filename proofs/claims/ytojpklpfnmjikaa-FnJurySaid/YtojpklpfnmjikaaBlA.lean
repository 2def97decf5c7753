/- BestLegs, the program's. No condition. -/
import Derived.Test.YtojpklpfnmjikaaBlQ
import Derived.Test.YtojpklpfnmjikaaRnM
import Derived.Deep.DeepCutAuto
import Derived.Deep.CutBlock
namespace Go.Proofs.Ytojpklpfnmjikaa
open Go Go.RowKit

theorem blV_no {ks : List RunK} {cs : List Int} {limit : Int} (h : askR ks cs limit = false) : blV ks cs limit = [] ∧ blB ks cs limit = false := by
  have : blB ks cs limit = false := by simp [blB, h]
  exact ⟨by simp [blV, this], this⟩
theorem blV_none {ks : List RunK} {cs : List Int} {limit : Int} (h : ¬ 0 < (okL cs limit ks).length) : blV ks cs limit = [] ∧ blB ks cs limit = false := by
  have : blB ks cs limit = false := by simp only [blB, h, decide_false, Bool.and_false]
  exact ⟨by simp [blV, this], this⟩
theorem blV_yes {ks : List RunK} {cs : List Int} {limit : Int} (ha : askR ks cs limit = true) (h : 0 < (okL cs limit ks).length) : blV ks cs limit = bestsL cs (okL cs limit ks) ∧ blB ks cs limit = true := by
  have : blB ks cs limit = true := by simp [blB, ha, h]
  exact ⟨by simp [blV, this], this⟩
/-- A number written into a row of numbers. -/
theorem put_ints {base : Nat} {w : World} {v : Value} {l l' : List Int} {s : Nat} {y : Int} (hs : s < (l.map ints).length) (hl : l.set s y = l') (h : Row base 3 1 w v ((l.map ints).set s ((l.map ints)[s].set 0 (.int .i64 y)))) : Row base 3 1 w v (l'.map ints) := by
  rw [← hl, List.map_set]
  refine Row.set_eq h ?_
  simp [ints]
theorem cell_ints {base : Nat} {e : TypeId} {w : World} {g n cap : Nat} {ys : List Int} (h : Row base e 1 w (.slice (some ⟨g, 0, none⟩) n cap) (ys.map ints)) {k : Nat} (hk : k < ys.length) : w.cell? ⟨g, k, none⟩ = some (.int .i64 ys[k]) := by
  have := h.cell (k := k) (j := 0) (by simpa using hk) (by omega)
  simpa [ints] using this
theorem Card.punch {w : World} {p : Card} (h : p.In w) {a : Nat} (ha : a < p.k.punches.length) : ∃ b off, p.a = some ⟨b, off, none⟩ ∧ w.cell? ⟨b, off + a * 2 + 1, none⟩ = some (.int .i64 p.k.punches[a].time) := by
  obtain ⟨A, c, hv, hc, hm, hk⟩ := h.open_
  simp only [Value.slice.injEq] at hv
  obtain ⟨rfl, _, _⟩ := hv
  obtain ⟨b, off, hA, hat⟩ := flat_at hk (by omega)
  exact ⟨b, off, hA, by have := hat a ha 1 _ rfl; exact this⟩

set_option maxRecDepth 100000 in
set_option maxHeartbeats 8000000 in
theorem impl_BestLegs (xs : List Run) (ks : List RunK) (v : Value) (cs : List Int) (u : Value) (limit : Int) (w : World) (hks : xs.map Run.k = ks) (h : RunS w v xs) (hs : Sl (Flat ints) 1 w u cs) (_ : ∀ x ∈ cs, I64 x) (_ : I64 limit) :
    Calls Try.prog 36 #[v, u, .int .i64 limit] w fun e w' => ∃ r, e = .returned (.tuple #[r, .bool (blB ks cs limit)]) ∧ Row w.heap.size 3 1 w' r ((blV ks cs limit).map ints) ∧ Below w.heap.size w w' := by
  subst hks
  have HAS := Lib.hid (canJudge_any xs cs limit v u w h hs)
  by_cases ha : askR (xs.map Run.k) cs limit = true
  rotate_left
  · have ha' : askR (xs.map Run.k) cs limit = false := by simpa using ha
    have HV := Lib.hid (blV_no ha')
    rw [ha'] at HAS
    rw [HV.out.1, HV.out.2]
    clear ha ha' h hs
    go_enter Try.func36, Try.ntmps36
    go_wp2_with (go_at_call 64; refine HAS.out.mono ?_; rintro e w1 ⟨rfl, hb1⟩)
    go_ret2
    exact ⟨_, rfl, Row.nil _ _ _ _, hb1⟩
  obtain ⟨hg, hco, hl1, hl2⟩ := askR_parts ha
  have hlen := codesOk_len hco
  have hxl := goodRs_len hg
  have HST := Lib.hid (fun k (hk : k < xs.length) W (hW : Below w.heap.size w W) => statusOf_any xs[k] cs u limit W ((h.2 _ (List.getElem_mem hk)).below hW) (hs.below (Flat.keeps _) hW) (by omega) (goodRs_ok hg _ (List.getElem_mem hk)))
  have HFO := Lib.hid (fun k (hk : k < xs.length) W (hW : Below w.heap.size w W) => foundAt_any xs[k].card cs u W ((h.2 _ (List.getElem_mem hk)).below hW) (hs.below (Flat.keeps _) hW) (by omega))
  have HIN := Lib.hid h.2
  have HOK := Lib.hid (goodRs_ok hg)
  have HVN := Lib.hid (fun hh => blV_none (ks := xs.map Run.k) (cs := cs) (limit := limit) hh)
  have HVY := Lib.hid (fun hh => blV_yes ha hh)
  have HTK := Lib.hid (okL_take cs limit (xs.map Run.k))
  have HKK := Lib.hid (show ∀ k (h : k < xs.length) (h' : k < (xs.map Run.k).length), (xs.map Run.k)[k] = xs[k].k from fun k _ _ => by simp)
  have HLM := Lib.hid (show (xs.map Run.k).length = xs.length by simp)
  obtain ⟨ks, hks⟩ : ∃ ks, ks = xs.map Run.k := ⟨_, rfl⟩
  rw [← hks] at HVN HVY HTK HKK HLM ⊢
  obtain ⟨A, c, rfl, hc, hm, hk⟩ := h.1.open_
  obtain ⟨UA, uc, rfl, huc, hucm, _⟩ := hs.open_
  rw [ha] at HAS
  have HK := Lib.hid hk
  obtain ⟨bb, hbb⟩ : ∃ b, blB ks cs limit = b := ⟨_, rfl⟩
  obtain ⟨vv, hvv⟩ : ∃ b, blV ks cs limit = b := ⟨_, rfl⟩
  rw [hbb, hvv] at HVN HVY ⊢
  clear ha hg hco h hs hks hk hbb hvv
  go_enter Try.func36, Try.ntmps36
  go_wp2_with (first
    | (go_at_call 64; refine HAS.out.mono ?_; rintro e w1 ⟨rfl, hb1⟩)
    | (at_make; refine tyInt.make rfl _ _ rfl w1.heap.size cs.length _ _ rfl rfl rfl rfl (by omega) (Nat.le_refl _) ?_; intro w2 hrow2 hb2 hz2))
  have HOW := Lib.hid (show Row w.heap.size 3 1 w2 (.slice (some ⟨w1.heap.size, 0, none⟩) cs.length cs.length) ((stL cs (okL cs limit (ks.take 0))).map ints) from (by
    have := hrow2.mono hb1.size
    simpa [stL, okL, ints] using this))
  have HBW := Lib.hid (step_ hb1 (Nat.le_refl _) hb2)
  obtain ⟨g, hgg⟩ : ∃ g, w1.heap.size = g := ⟨_, rfl⟩
  have HG := Lib.hid (show w.heap.size ≤ g by rw [← hgg]; exact hb1.size)
  have hz2' : g < w2.heap.size := by omega
  have HZ2 := Lib.hid hz2'
  rw [hgg] at HOW ⊢
  clear hrow2 hgg hz2 hz2' hb1 hb2
  go_loopw [27, 9] (fun i f wr => ∃ k : Nat, k ≤ xs.length ∧ i = .int .i64 k ∧ f = .bool (decide (0 < (okL cs limit (ks.take k)).length)) ∧ Hid (Row w.heap.size 3 1 wr (.slice (some ⟨g, 0, none⟩) cs.length cs.length) ((stL cs (okL cs limit (ks.take k))).map ints)) ∧ Hid (Below w.heap.size w wr) ∧ Hid (g < wr.heap.size))
    (fun i _ _ => xs.length - (intOf i).toNat)
  case atStart => exact ⟨0, Nat.zero_le _, rfl, by simp [okL], HOW.out, HBW.out, HZ2.out⟩
  case round =>
    clear HOW HBW HZ2
    obtain ⟨k, hkl, rfl, rfl, HROW, HB, HGL⟩ := hrel
    by_cases hlt : k < xs.length
    · obtain ⟨b, off, rfl, hat⟩ := flat_at HK.out (by omega)
      have hr := rangeAt_below (hat k hlt) HB.out
      have hkk : k < ks.length := by rw [HLM.out]; exact hlt
      have HTS := Lib.hid (HTK.out k hkk)
      rw [HKK.out k hlt hkk] at HTS
      have HCALL := Lib.hid (HST.out k hlt)
      have HFK := Lib.hid (HFO.out k hlt)
      have HXI := Lib.hid ((HIN.out _ (List.getElem_mem hlt)).below HB.out)
      have HXW0 := Lib.hid (HIN.out _ (List.getElem_mem hlt))
      have HXO := Lib.hid (HOK.out _ (List.getElem_mem hlt))
      obtain ⟨l, hl⟩ : ∃ l, okL cs limit (ks.take k) = l := ⟨_, rfl⟩
      rw [hl] at HTS HROW ⊢
      obtain ⟨x, hx⟩ : ∃ x, xs[k] = x := ⟨_, rfl⟩
      rw [hx] at hr HCALL HFK HXI HXO HTS HXW0
      have hrn := Run.rangeNew wr x 53
      have HRN := Lib.hid hrn
      have HB1 := Lib.hid (below_alloc HB.out (.cells #[.int .i64 x.runner, .bool x.started, .bool x.out, .int .i64 x.card.k.number, .int .i64 x.card.k.start, .int .i64 x.card.k.finish, .slice x.card.a x.card.n x.card.c] 53))
      have HR1 := Lib.hid (HROW.out.alloc (.cells #[.int .i64 x.runner, .bool x.started, .bool x.out, .int .i64 x.card.k.number, .int .i64 x.card.k.start, .int .i64 x.card.k.finish, .slice x.card.a x.card.n x.card.c] 53))
      obtain ⟨q, hq⟩ : ∃ q, decide (0 < l.length) = q := ⟨_, rfl⟩
      have HQ := Lib.hid hq
      rw [hq]
      obtain ⟨s, hs⟩ : ∃ s, stV x.k cs limit = s := ⟨_, rfl⟩
      rw [hs] at HTS HCALL
      have HS := Lib.hid hs
      clear hat hl hx hq hs
      by_cases hs0 : s = 0
      rotate_left
      · have hs1 : (s == 0) = false := by simpa using hs0
        have hs2 : (s != 0) = true := by simpa using hs0
        rw [if_neg hs0] at HTS
        clear hs0
        go_wp2_with (first
          | ((with_reducible refine at_load_ 53 ?_); refine Run.loadImpl rfl _ rfl b (off + k * 7) rfl _ hr ?_)
          | ((with_reducible refine at_load_ 53 ?_); refine Run.loadImpl rfl _ rfl wr.heap.size 0 rfl _ hrn ?_)
          | (go_at_call 65; refine (HCALL.out _ HB1.out).mono ?_; rintro e w3 ⟨rfl, hb3⟩; have HR3 := Lib.hid (HR1.out.below hb3); have HB3 := Lib.hid (step_ HB1.out (Nat.le_refl _) hb3)))
        go_roundw
        case rel => exact ⟨k + 1, by omega, by go_num, by rw [HTS.out, HQ.out], by rw [HTS.out]; exact HR3.out, HB3.out, Nat.lt_of_lt_of_le HGL.out (by have := hb3.size; simp at this; omega)⟩
        case measure => simp [intOf]; omega
      · subst hs0
        rw [if_pos rfl] at HTS
        go_wp2_with (first
          | ((with_reducible refine at_load_ 53 ?_); refine Run.loadImpl rfl _ rfl b (off + k * 7) rfl _ hr ?_)
          | ((with_reducible refine at_load_ 53 ?_); refine Run.loadImpl rfl _ rfl wr.heap.size 0 rfl _ hrn ?_)
          | (go_at_call 65; refine (HCALL.out _ HB1.out).mono ?_; rintro e w3 ⟨rfl, hb3⟩; have HR3 := Lib.hid (HR1.out.below hb3); have HB3 := Lib.hid (step_ HB1.out (Nat.le_refl _) hb3); have hrn3 := rangeAt_below hrn hb3; have hcr3 := Run.cardRange hrn3; have hcs3 := (Run.cells hrn3).2.2.2.2.1; simp only [Nat.zero_add] at hcr3 hcs3)
          | ((with_reducible refine at_load_ 51 ?_); refine Card.loadImpl rfl _ rfl wr.heap.size 3 rfl x.card hcr3 ?_)
          | (go_at_call 71; refine (HFK.out _ HB3.out).mono ?_; rintro e w5 ⟨fv, rfl, row5, hb5⟩; have HR5 := Lib.hid (HR3.out.below hb5); have HB5 := Lib.hid (step_ HB3.out (Nat.le_refl _) hb5); have HRN5 := Lib.hid (rangeAt_below hrn3 hb5); obtain ⟨FA, fc, rfl, hfc, hfcm⟩ := row5.parts; have hfl := found_len x.card.k.punches cs; simp only [List.length_map] at row5 hfc ⊢; rw [hfl] at hfc row5 ⊢; clear hfl))
        have HFD := Lib.hid (fun i hi => ok_found HS.out i hi)
        have HTM := Lib.hid (fun i (hi : i < cs.length) => timeI_small HS.out HXO.out hi)
        have HFM := Lib.hid (fun i (hi : i < cs.length) => fromI_small HS.out HXO.out hi)
        have HXW := Lib.hid (show x.card.In w from HXW0.out)
        have hpl := HXW.out.len
        have hgw := HGL.out
        have HGW := Lib.hid (show g < w3.heap.size by have := hb3.size; simp at this; omega)
        clear hr hrn hrn3 hcr3 hcs3 hpl
        go_loopw [44, 12] (fun iv bv wi => ∃ i : Nat, i ≤ cs.length ∧ iv = .int .i64 i ∧ bv = .int .i64 (fromI x.k cs i) ∧ Hid (Row w.heap.size 3 1 wi (.slice (some ⟨g, 0, none⟩) cs.length cs.length) ((midL cs l x.k i).map ints)) ∧ Hid (w5.grownBy wi (some g)))
          (fun iv _ _ => cs.length - (intOf iv).toNat)
        case atStart => exact ⟨0, Nat.zero_le _, rfl, by simp [fromI, Run.k], by rw [midL_zero]; exact HR5.out, World.grownBy.refl _ _⟩
        case round =>
          obtain ⟨i, hin, rfl, rfl, HMI, HGI⟩ := hrel
          have HBI := Lib.hid (HB5.out.grown HGI.out HB5.out.size (fun q hq => by have := HG.out; simp at hq; omega))
          by_cases hi : i < cs.length
          · obtain ⟨a, ha, hfa⟩ := HFD.out i hi
            obtain ⟨pb, po, hpa, hpc⟩ := Card.punch HXW.out ha
            replace hpc := (HBI.out.cell (block_lt_of_cell hpc)).trans hpc
            have htm := timeI_at ha hfa
            have hts := HTM.out i hi
            have hfs := HFM.out i hi
            have hbc := (Run.cells (range_grown_ HRN5.out HGI.out (by intro e; simp at e; omega))).2.2.2.2.2.2
            simp only [Nat.zero_add] at hbc
            rw [hpa, HXW.out.len] at hbc
            have hrf := row5.kept HGI.out (.inr (fun e => by have := (row5.lt _ e).1; have := HGW.out; omega))
            obtain ⟨fg, cap, he, hbg, hg, hcap⟩ := row5.form (by simp [found_len]; omega)
            simp only [Value.slice.injEq, List.length_map] at he
            obtain ⟨rfl, hqq, rfl⟩ := he
            clear hqq
            have hfc2 := cell_ints hrf (k := i) (by rw [found_len]; exact hi)
            have hfe : (foundL x.card.k.punches cs)[i]'(by rw [found_len]; exact hi) = (a : Int) := by
              rw [List.getElem?_eq_getElem (by rw [found_len]; exact hi)] at hfa
              exact Option.some.inj hfa
            rw [hfe] at hfc2
            have hmi := cell_ints HMI.out (k := i) (by rw [midL_len hin]; exact hi)
            rw [midL_at hi] at hmi
            obtain ⟨cur, hcur⟩ : ∃ cur, (stL cs l)[i]'(by rw [stL_len]; exact hi) = cur := ⟨_, rfl⟩
            rw [hcur] at hmi
            have HFN := Lib.hid (show fromI x.k cs (i + 1) = timeI x.k cs i by simp [fromI])
            have HLEG := Lib.hid (show legI x.k cs i = timeI x.k cs i - fromI x.k cs i from rfl)
            have hpt : x.card.k.punches[a].time = timeI x.k cs i := htm.symm
            rw [hpt] at hpc
            obtain ⟨t, ht⟩ : ∃ t, timeI x.k cs i = t := ⟨_, rfl⟩
            obtain ⟨f, hf⟩ : ∃ f, fromI x.k cs i = f := ⟨_, rfl⟩
            rw [ht] at hpc hts HFN HLEG
            rw [hf] at hfs HLEG ⊢
            obtain ⟨ht1, ht2⟩ := hts
            obtain ⟨hf1, hf2⟩ := hfs
            have HCUR := Lib.hid hcur
            have HSL := Lib.hid (show i < ((midL cs l x.k i).map ints).length by rw [List.length_map, midL_len hin]; exact hi)
            have HPUT := Lib.hid (show ∀ y, bestI cs i (l ++ [x.k]) = y → (midL cs l x.k i).set i y = midL cs l x.k (i + 1) from fun y hy => by rw [← hy]; exact midL_set hi)
            have HSAME := Lib.hid (show bestI cs i (l ++ [x.k]) = cur → midL cs l x.k i = midL cs l x.k (i + 1) from fun hy => by
              rw [← midL_set hi, hy, ← hcur, ← midL_at (k := x.k) hi]
              exact (List.set_getElem_self _).symm)
            have hal : a < x.card.k.punches.length := ha
            obtain ⟨pn, hpn⟩ : ∃ pn, x.card.k.punches.length = pn := ⟨_, rfl⟩
            rw [hpn] at hbc hal
            clear ha hfa hpa htm hfe hcur hpt ht hf hpn hgw
            have HI1 := Lib.hid hi
            have HTF := Lib.hid (show t - f ≤ 36000 from Int.le_trans (Int.sub_le_self t hf1) ht2)
            have hwr : IntKind.i64.wrap (t - f) = t - f := by rw [IntKind.wrap_i64]; omega
            have hii : (i : Int) < (cs.length : Int) := by omega
            have hii0 : (0 : Int) ≤ (i : Int) := by omega
            have haa : (a : Int) < (pn : Int) := by omega
            have haa0 : (0 : Int) ≤ (a : Int) := by omega
            have hwi : IntKind.i64.wrap ((i : Int) + 1) = (i : Int) + 1 := by rw [IntKind.wrap_i64]; omega
            clear hrf row5 hcap hbg hg hb5 hb3 HAS HK HST HFO ht1 ht2 hf1 hf2 hal
            cases q with
            | false =>
              have HL0 := Lib.hid (show l = [] from List.eq_nil_of_length_eq_zero (by have := HQ.out; simp at this; simp [this]))
              go_upto_if 68 with fail
              clear hfc2 hbc hpc
              go_cut [] (fun wx => Hid (Row w.heap.size 3 1 wx (.slice (some ⟨g, 0, none⟩) cs.length cs.length) ((midL cs l x.k (i + 1)).map ints)) ∧ Hid (w5.grownBy wx (some g)))
              case first =>
                have hmr := HMI.out
                go_wp2_with ((with_reducible refine at_store_ (w := wr) 3 ?_); refine put1_ (e := 3) (sz := 1) rfl _ _ _ rfl infoInt w.heap.size g cs.length cs.length i 0 _ _ _ hmr HSL.out Nat.zero_lt_one rfl (by simp) rfl ?_; intro w6 hrow6 hg6)
                have HR6 := Lib.hid (put_ints HSL.out (HPUT.out (t - f) (by rw [HL0.out]; exact midL_first HLEG.out HTF.out)) hrow6)
                have HG6 := Lib.hid (grown_trans HGI.out hg6)
                clear hrow6 hg6 hmr hmi
                go_meet
                exact ⟨HR6, HG6⟩
              case rest =>
                obtain ⟨HMR, HGR⟩ := hcut
                clear hmi HMI
                go_wp2_with fail
                go_roundw
                case rel => exact ⟨i + 1, Nat.succ_le_of_lt HI1.out, by go_num, by rw [HFN.out], HMR.out, HGR.out⟩
                case measure => have := HI1.out; simp [intOf]; omega
            | true =>
              have HL0 := Lib.hid (show l ≠ [] from fun e => by have := HQ.out; rw [e] at this; simp at this)
              have HBE := Lib.hid (midL_less HLEG.out HL0.out HI1.out HCUR.out)
              go_upto_if 68 with fail
              clear hfc2 hbc hpc
              go_cut [] (fun wx => Hid (Row w.heap.size 3 1 wx (.slice (some ⟨g, 0, none⟩) cs.length cs.length) ((midL cs l x.k (i + 1)).map ints)) ∧ Hid (w5.grownBy wx (some g)))
              case first =>
                have hmr := HMI.out
                by_cases hlc : t - f < cur
                · have HLC := Lib.hid hlc
                  go_wp2_with ((with_reducible refine at_store_ (w := wr) 3 ?_); refine put1_ (e := 3) (sz := 1) rfl _ _ _ rfl infoInt w.heap.size g cs.length cs.length i 0 _ _ _ hmr HSL.out Nat.zero_lt_one rfl (by simp) rfl ?_; intro w6 hrow6 hg6)
                  have HR6 := Lib.hid (put_ints HSL.out (HPUT.out (t - f) (by rw [HBE.out, if_pos HLC.out])) hrow6)
                  have HG6 := Lib.hid (grown_trans HGI.out hg6)
                  clear hrow6 hg6 hmr hmi hlc
                  go_meet
                  exact ⟨HR6, HG6⟩
                · have HLC := Lib.hid hlc
                  go_wp2_with fail
                  go_meet
                  exact ⟨Lib.hid (by show Row _ _ _ _ _ _; rw [← HSAME.out (by rw [HBE.out, if_neg (show ¬ t - f < cur by have := HLC.out; omega)])]; exact HMI.out), HGI⟩
              case rest =>
                obtain ⟨HMR, HGR⟩ := hcut
                clear hmi HMI
                go_wp2_with fail
                go_roundw
                case rel => exact ⟨i + 1, Nat.succ_le_of_lt HI1.out, by go_num, by rw [HFN.out], HMR.out, HGR.out⟩
                case measure => have := HI1.out; simp [intOf]; omega
          · obtain rfl : i = cs.length := by omega
            have HM2 := Lib.hid (show Row w.heap.size 3 1 wr _ _ from by rw [midL_all] at HMI; exact HMI.out)
            go_wp2
            go_roundw
            case rel => exact ⟨k + 1, by omega, by go_num, by rw [HTS.out]; simp, by rw [HTS.out]; exact HM2.out, HBI.out, Nat.lt_of_lt_of_le HGW.out (by have := hb5.size; have := HGI.out.size; omega)⟩
            case measure => simp [intOf]; omega
    · obtain rfl : k = xs.length := by omega
      have e1 : ks.take xs.length = ks := by rw [← HLM.out]; exact List.take_length
      rw [e1] at HROW ⊢
      by_cases h0 : 0 < (okL cs limit ks).length
      · have hd : decide (0 < (okL cs limit ks).length) = true := by simpa using h0
        obtain ⟨ev, eb⟩ := HVY.out h0
        have HE := Lib.hid (And.intro ev eb)
        have HST0 := Lib.hid (show stL cs (okL cs limit ks) = bestsL cs (okL cs limit ks) by
          unfold stL
          rw [if_neg (fun e => by rw [e] at h0; simp at h0)])
        clear ev eb h0
        rw [hd]
        go_wp2
        go_ret2
        exact ⟨_, by (rw [HE.out.2] <;> rfl), by rw [HE.out.1, ← HST0.out]; exact HROW.out, HB.out⟩
      · have hd : decide (0 < (okL cs limit ks).length) = false := by simpa using h0
        obtain ⟨ev, eb⟩ := HVN.out h0
        have HE := Lib.hid (And.intro ev eb)
        clear ev eb h0
        rw [hd]
        go_wp2
        go_ret2
        exact ⟨_, by (rw [HE.out.2] <;> rfl), by rw [HE.out.1]; exact Row.nil _ _ _ _, HB.out⟩
end Go.Proofs.Ytojpklpfnmjikaa
