/- The walk of the law FnRounds: it returns true. No condition. -/
import Derived.Test.YtabgmbmaakglkaaHtO
import Derived.Test.YtabgmbmaakglkaaSgB
import Derived.Test.YtabgmbmaakglkaaHtH
import Derived.Test.YtabgmbmaakglkaaGpA
import Derived.Test.YtabgmbmaakglkaaHtP
import Derived.Test.YtabgmbmaakglkaaSgC
import Derived.Test.YtabgmbmaakglkaaRdB
import Derived.Test.YtabgmbmaakglkaaRdA
import Derived.Test.YtabgmbmaakglkaaByte
import Derived.Deep.LoopGhost
import Derived.Deep.CutBlock
import Derived.Deep.DeepCutAuto
namespace Go.Proofs.Ytabgmbmaakglkaa
open Go Go.RowKit

set_option maxRecDepth 100000 in
set_option maxHeartbeats 16000000 in
theorem fnRounds_walk (v0 : Value) (m : Nat) (w : World) (h0 : CodeS w v0 m) :
    Calls Try.prog 9 #[v0] w fun e w' => e = .returned (.bool true) ∧ Below w.heap.size w w' := by
  obtain ⟨q, hq⟩ : ∃ q, q = decide (65536 < m) := ⟨_, rfl⟩
  have HC := Lib.hid h0
  have HV := Lib.hid (rBig_any v0 m q w h0 hq)
  have HB := Lib.hid (Below.refl w.heap.size w)
  clear hq h0
  cases q with
  | true =>
    go_enter Try.func9, Try.ntmps9
    go_wp2_with fail
    refine (HV.out).mono ?_
    rintro e w' ⟨rfl, hb⟩
    replace HB := Lib.hid (step_ HB.out (Nat.le_refl _) hb)
    go_wp2_with fail
    go_ret
    exact ⟨rfl, HB.out⟩
  | false =>
    go_enter Try.func9, Try.ntmps9
    go_wp2_with fail
    refine (HV.out).mono ?_
    rintro e w' ⟨rfl, hb⟩
    replace HB := Lib.hid (step_ HB.out (Nat.le_refl _) hb)
    clear hb HV
    go_wp2_with fail
    refine (draw_SeedHeats v0 m _ (HC.out.below HB.out)).mono ?_
    rintro e w' ⟨v, xs, q, rfl, hs, hxl, hq, hb⟩
    replace HB := Lib.hid (step_ HB.out (Nat.le_refl _) hb)
    have HS := Lib.hid hs
    have HI1 := Lib.hid (show ∀ W, Sl (Flat ints) 1 W v xs → _ from fun W hW => impl_SeedHeats xs v q W hW)
    have HJ1 := Lib.hid (show ∀ W, Sl (Flat ints) 1 W v xs → _ from fun W hW => spec_SeedHeats xs v q W hW)
    have HF := Lib.hid (seed_facts xs q)
    generalize seedB xs q = ok at HI1 HJ1 HF
    generalize seedV xs q = T at HI1 HJ1 HF
    clear hs hb hq hxl
    go_wp2_with fail
    refine (HI1.out _ HS.out).mono ?_
    rintro e w' ⟨r1, zs, rfl, hz, row1, hb⟩
    replace HB := Lib.hid (step_ HB.out (Nat.le_refl _) hb)
    replace HS := Lib.hid (Sl.below (Flat.keeps _) HS.out hb)
    have HR := Lib.hid row1.s
    obtain ⟨f1, f2, f3, f4⟩ := tbl_facts hz HF.out
    have HZ := Lib.hid hz
    have HF1 := Lib.hid f1
    have HF2 := Lib.hid f2
    have HF3 := Lib.hid f3
    have HF4 := Lib.hid f4
    clear row1 hb HI1 hz HF f1 f2 f3 f4
    go_wp2_with fail
    refine (HJ1.out _ HS.out).mono ?_
    rintro e w' ⟨r2, ys, rfl, hy, row2, hb⟩
    replace HB := Lib.hid (step_ HB.out (Nat.le_refl _) hb)
    replace HS := Lib.hid (Sl.below (Flat.keeps _) HS.out hb)
    replace HR := Lib.hid (HR.out.below hb)
    have HE := Lib.hid (rTable_refl zs ys r1 r2 _ HR.out row2.s (by rw [HZ.out, hy]))
    clear row2 hb HJ1 hy HZ
    go_upto_region 6 with fail
    go_cut [58] (fun b wx => b = .bool false ∧ Hid (Below w.heap.size w wx) ∧ Hid (Sl (Flat ints) 1 wx v xs) ∧ Hid (ILS wx r1 zs))
    case first => as_aux_lemma =>
      cases ok with
      | false =>
        go_wp2_with fail
        refine (HE.out).mono ?_
        rintro e w' ⟨rfl, hb⟩
        replace HB := Lib.hid (step_ HB.out (Nat.le_refl _) hb)
        replace HS := Lib.hid (Sl.below (Flat.keeps _) HS.out hb)
        replace HR := Lib.hid (HR.out.below hb)
        clear hb
        go_wp2_with fail
        go_meet
        exact ⟨rfl, HB, HS, HR⟩
      | true =>
        go_wp2_with fail
        refine (HE.out).mono ?_
        rintro e w' ⟨rfl, hb⟩
        replace HB := Lib.hid (step_ HB.out (Nat.le_refl _) hb)
        replace HS := Lib.hid (Sl.below (Flat.keeps _) HS.out hb)
        replace HR := Lib.hid (HR.out.below hb)
        clear hb
        go_wp2_with fail
        go_meet
        exact ⟨rfl, HB, HS, HR⟩
    case rest =>
      clear HB HS HR HE
      obtain ⟨rfl, HB, HS, HR⟩ := hcut
      obtain ⟨A, c, rfl, -, -, -⟩ := HS.out.open_
      obtain ⟨A1, c1, rfl, -, -, -⟩ := HR.out.1.open_
      obtain ⟨b, off, hA, hcl⟩ := HR.out.cells
      have HA := Lib.hid hA
      have HCL := Lib.hid hcl
      have hz4 := HF3.out
      clear HS HR hA hcl
      go_upto_block 0 with fail
      go_cut [9] (fun nv wx => nv = .int .i64 (sumI zs zs.length : Nat) ∧ Hid (Below w.heap.size w wx))
      case first => as_aux_lemma =>
        go_wp2_with fail
        go_loopw [9, 10] (fun nv i wr => ∃ k : Nat, k ≤ zs.length ∧ i = .int .i64 k ∧ nv = .int .i64 (sumI zs k : Nat) ∧ Hid (Below w.heap.size w wr) ∧ Below wc.heap.size wc wr)
          (fun _ i _ => zs.length - (intOf i).toNat)
        case atStart => exact ⟨0, Nat.zero_le _, rfl, rfl, HB, Below.refl _ _⟩
        case round =>
          clear HB
          obtain ⟨k, hkl, rfl, rfl, HB, hb'⟩ := hrel
          by_cases hlt : k < zs.length
          · obtain rfl := HA.out (by omega)
            have ha := HCL.out _ hb' k hlt
            have hst := sumI_step zs hlt
            have hsm := sumI_few HF4.out (k + 1) (by omega)
            have HFK := Lib.hid (fun i (hi : i < zs.length) => HF1.out k i hlt hi)
            have HFK4 := HF4.out k hlt
            have HCK := Lib.hid (show ∀ W, Below wc.heap.size wc W → _ from fun W hW => HCL.out W hW k hlt)
            obtain ⟨na, hna⟩ : ∃ na, na = zs[k].k.length := ⟨_, rfl⟩
            rw [← hna] at ha hst HFK HFK4 HCK
            have hwn : IntKind.i64.wrap (((sumI zs k : Nat) : Int) + (na : Int)) = ((sumI zs (k + 1) : Nat) : Int) := by rw [IntKind.wrap_i64]; omega
            obtain ⟨s2, hs2⟩ : ∃ s2, s2 = sumI zs (k + 1) := ⟨_, rfl⟩
            rw [← hs2] at hwn
            have HS2 := Lib.hid hs2
            generalize sumI zs k = s1 at hwn ⊢
            generalize zs[k].a = Ba at ha HCK
            generalize zs[k].c = da at ha HCK
            have hz1 : (0 : Int) ≤ (k : Int) := by omega
            have hz2 : (k : Int) < (zs.length : Int) := by omega
            obtain ⟨wo, rfl⟩ : ∃ wo : World, wo = wr := ⟨_, rfl⟩
            clear hs2 hst hsm hna
            go_wp2_with fail
            go_loopw [11] (fun j wi => ∃ i : Nat, i ≤ zs.length ∧ j = .int .i64 i ∧ Hid (Below w.heap.size w wi) ∧ Below wc.heap.size wc wi)
              (fun j _ => zs.length - (intOf j).toNat)
            case atStart => exact ⟨0, Nat.zero_le _, rfl, HB, hb'⟩
            case round =>
              clear HB hb' ha
              obtain ⟨i, hil, rfl, HB, hbi⟩ := hrel
              by_cases hit : i < zs.length
              · have hx := After.keep (HCK.out _ hbi)
                have hy0 := HCL.out _ hbi i hit
                have hle := HFK.out i hit
                have hl6 := HF4.out i hit
                generalize zs[i].k.length = nb at hy0 hle hl6
                generalize zs[i].a = Bb at hy0
                generalize zs[i].c = db at hy0
                have hy := After.keep hy0
                have hwi : IntKind.i64.wrap ((nb : Int) + 1) = (nb : Int) + 1 := by rw [IntKind.wrap_i64]; omega
                have hgt : ¬ ((nb : Int) + 1 < (na : Int)) := by omega
                have hz3 : (0 : Int) ≤ (i : Int) := by omega
                have hz5 : (i : Int) < (zs.length : Int) := by omega
                clear hy0
                go_wp2
                refine region_after (by kernel_rfl) (by kernel_rfl) ?_
                repeat (any_goals (first | go_big_quiet_step (fail)  | quiet_step (fail) | (refine wpQuiet_step (fun K hK => ?_); go_simp; split <;> (refine hK _ ?_; clear hK K))))
                all_goals (refine wpQuiet_nil ?_; intro s)
                all_goals go_wp2
                go_roundw
                case rel => exact ⟨i + 1, by omega, by go_num, Lib.hid (step_ HB.out (Nat.le_refl _) s.hb), step_ hbi (Nat.le_refl _) s.hb⟩
                case measure => simp [intOf]; omega
              · go_wp2_with fail
                go_roundw
                case rel => exact ⟨k + 1, by omega, by go_num, by rw [HS2.out], HB, hbi⟩
                case measure => simp [intOf]; omega
          · obtain rfl : k = zs.length := by omega
            go_wp2_with fail
            go_meet
            exact ⟨rfl, HB⟩
      case rest =>
        clear HB HA HCL HF1 HF3 HF4 hz4
        obtain ⟨rfl, HB⟩ := hcut
        generalize sumI zs zs.length = n at HF2 ⊢
        go_upto_region 18 with fail
        go_cut [96] (fun b wx => b = .bool false ∧ wc = wx)
        case first => as_aux_lemma =>
          cases ok with
          | false =>
            go_wp2_with fail
            go_meet
            exact ⟨rfl, rfl⟩
          | true =>
            obtain rfl := HF2.out rfl
            have hne : ((xs.length : Int) != (xs.length : Int)) = false := by simp
            go_wp2_with fail
            go_meet
            exact ⟨rfl, rfl⟩
        case rest =>
          obtain ⟨rfl, rfl⟩ := hcut
          clear HF2
          go_wp2_with fail
          refine (draw_PhotoFinish v0 m _ (HC.out.below HB.out)).mono ?_
          rintro e w' ⟨v, xs, q, rfl, hs, hxl, _, hq, hb⟩
          replace HB := Lib.hid (step_ HB.out (Nat.le_refl _) hb)
          have HS := Lib.hid hs
          have hid : I64 q := by unfold I64; omega
          have HI2 := Lib.hid (show ∀ W, HtS W v xs → _ from fun W hW => impl_PhotoFinish xs (xs.map Ht.k) v q W rfl hW (by omega) hid)
          have HJ2 := Lib.hid (show ∀ W, HtS W v xs → _ from fun W hW => spec_PhotoFinish xs (xs.map Ht.k) v q W rfl hW (by omega) hid)
          have HPF := Lib.hid (fun (zs : List IL) (hz : zs.map IL.k = phV (xs.map Ht.k) q) => photo_facts hz)
          generalize askP (xs.map Ht.k) q = ok at HI2 HJ2
          generalize phV (xs.map Ht.k) q = T at HI2 HJ2 HPF
          clear hs hb hq hid
          go_wp2_with fail
          refine (HI2.out _ HS.out).mono ?_
          rintro e w' ⟨r1, zs, rfl, hz, row1, hb⟩
          replace HB := Lib.hid (step_ HB.out (Nat.le_refl _) hb)
          replace HS := Lib.hid (HS.out.below hb)
          have HR := Lib.hid row1.s
          have HP := Lib.hid (HPF.out zs hz)
          have HZ := Lib.hid hz
          clear row1 hb HI2 hz HPF
          go_wp2_with fail
          refine (HJ2.out _ HS.out).mono ?_
          rintro e w' ⟨r2, ys, rfl, hy, row2, hb⟩
          replace HB := Lib.hid (step_ HB.out (Nat.le_refl _) hb)
          replace HS := Lib.hid (HS.out.below hb)
          replace HR := Lib.hid (HR.out.below hb)
          have HE := Lib.hid (rTable_refl zs ys r1 r2 _ HR.out row2.s (by rw [HZ.out, hy]))
          clear row2 hb HJ2 hy HZ
          go_upto_region 23 with fail
          go_cut [122] (fun b wx => b = .bool false ∧ Hid (Below w.heap.size w wx) ∧ Hid (HtS wx v xs) ∧ Hid (ILS wx r1 zs))
          case first => as_aux_lemma =>
            cases ok with
            | false =>
              go_wp2_with fail
              refine (HE.out).mono ?_
              rintro e w' ⟨rfl, hb⟩
              replace HB := Lib.hid (step_ HB.out (Nat.le_refl _) hb)
              replace HS := Lib.hid (HS.out.below hb)
              replace HR := Lib.hid (HR.out.below hb)
              clear hb
              go_wp2_with fail
              go_meet
              exact ⟨rfl, HB, HS, HR⟩
            | true =>
              go_wp2_with fail
              refine (HE.out).mono ?_
              rintro e w' ⟨rfl, hb⟩
              replace HB := Lib.hid (step_ HB.out (Nat.le_refl _) hb)
              replace HS := Lib.hid (HS.out.below hb)
              replace HR := Lib.hid (HR.out.below hb)
              clear hb
              go_wp2_with fail
              go_meet
              exact ⟨rfl, HB, HS, HR⟩
          case rest =>
            clear HB HS HR HE
            obtain ⟨rfl, HB, HS, HR⟩ := hcut
            obtain ⟨A, c, rfl, hc, hm, hk⟩ := HS.out.1.open_
            have HK := Lib.hid hk
            have HIN := Lib.hid HS.out.2
            obtain ⟨A1, c1, rfl, hc1, hm1, -⟩ := HR.out.1.open_
            obtain ⟨b, off, hA, hcl⟩ := HR.out.cells
            have HA := Lib.hid hA
            have HCL := Lib.hid hcl
            have HPC := Lib.hid (show ∀ i (hi : i < zs.length) (x y : Int), zs[i].k = [x, y] → _ from fun i hi x y h => HR.out.pair hi h)
            clear HS HR hk hA hcl
            go_upto_block 4 with fail
            go_cut [] (fun wx => Hid (Below w.heap.size w wx))
            case first => as_aux_lemma =>
              go_wp2_with fail
              go_loopw [18] (fun i wr => ∃ k : Nat, k ≤ zs.length ∧ i = .int .i64 k ∧ Hid (Below w.heap.size w wr) ∧ Below wc.heap.size wc wr)
                (fun i _ => zs.length - (intOf i).toNat)
              case atStart => exact ⟨0, Nat.zero_le _, rfl, HB, Below.refl _ _⟩
              case round =>
                clear HB
                obtain ⟨k, hkl, rfl, HB, hb'⟩ := hrel
                by_cases hlt : k < zs.length
                · obtain rfl := HA.out (by omega)
                  obtain ⟨x, y, hxy, k0, hk0, hg1, hg2, hg3⟩ := HP.out k hlt
                  obtain ⟨g, o, hga, hpc⟩ := HPC.out k hlt x y hxy
                  have HCK := Lib.hid (show ∀ W, Below wc.heap.size wc W → W.cell? ⟨b, off + k, none⟩ = some (.slice (some ⟨g, o, none⟩) 2 zs[k].c) from fun W hW => by have := HCL.out W hW k hlt; rw [hga, hxy] at this; exact this)
                  have HPC2 := Lib.hid hpc
                  generalize zs[k].c = dk at HCK
                  have HW := Lib.hid (show ∀ j, j = k0 → ∀ hj : j < xs.length, gapB xs[j].k x y = true ∧ 0 < gapV xs[j].k x y ∧ gapV xs[j].k x y ≤ q from fun j hj hjl => by subst hj; exact ⟨hg1, hg2, hg3⟩)
                  have hz1 : (0 : Int) ≤ (k : Int) := by omega
                  have hz2 : (k : Int) < (zs.length : Int) := by omega
                  obtain ⟨wo, rfl⟩ : ∃ wo : World, wo = wr := ⟨_, rfl⟩
                  clear hxy hg1 hg2 hg3 hga hpc
                  go_wp2_with fail
                  go_loopw [19, 20] (fun nv j wi => ∃ (i : Nat) (nb : Bool), i ≤ xs.length ∧ j = .int .i64 i ∧ nv = .bool nb ∧ Hid (k0 < i → nb = true) ∧ Hid (Below w.heap.size w wi) ∧ Below wc.heap.size wc wi)
                    (fun _ j _ => xs.length - (intOf j).toNat)
                  case atStart => exact ⟨0, false, Nat.zero_le _, rfl, rfl, fun h => absurd h (by omega), HB, hb'⟩
                  case round =>
                    clear HB hb'
                    obtain ⟨i, nb, hil, rfl, rfl, HNB, HB, hbi⟩ := hrel
                    by_cases hit : i < xs.length
                    · obtain ⟨ba, oa, rfl, hat⟩ := flat_at HK.out (by omega)
                      have hrg := rangeAt_below (hat i hit) hbi
                      have hin := (HIN.out _ (List.getElem_mem hit)).below hbi
                      have HG := Lib.hid (show ∀ t : After wr, Calls Try.prog 38 #[.agg #[.slice xs[i].a xs[i].n xs[i].c, .slice xs[i].b xs[i].m xs[i].d], .int .i64 x, .int .i64 y] t.w' fun e w' => e = .returned (.tuple #[.int .i64 (gapV xs[i].k x y), .bool (gapB xs[i].k x y)]) ∧ Below t.w'.heap.size t.w' w' from fun t => impl_GapIn xs[i] x y t.w' (hin.below t.hb))
                      have HWI := Lib.hid (fun (h : i = k0) => HW.out i h hit)
                      generalize gapV xs[i].k x y = gv at HG HWI
                      generalize gapB xs[i].k x y = gb at HG HWI
                      generalize xs[i] = p at HG hrg
                      have hck := After.keep (HCK.out _ hbi)
                      obtain ⟨hp0, hp1⟩ := HPC2.out _ hbi
                      have hpx := After.keep hp0
                      have hpy := After.keep hp1
                      have hz3 : (0 : Int) ≤ (i : Int) := by omega
                      have hz4 : (i : Int) < (xs.length : Int) := by omega
                      clear hat hin hp0 hp1
                      have HBI := Lib.hid hbi
                      clear hbi
                      go_upto_block 7 with fail
                      go_cut [19] (fun nv wx => ∃ nb' : Bool, nv = .bool nb' ∧ Hid (k0 < i + 1 → nb' = true) ∧ Hid (Below w.heap.size w wx) ∧ Hid (Below wc.heap.size wc wx))
                      case first =>
                        go_wp2
                        refine region_after (by kernel_rfl) (by kernel_rfl) ?_
                        repeat (any_goals (first | go_big_quiet_step ((go_at_call 38; with_reducible exact Calls.after (v := .tuple #[.int .i64 gv, .bool gb]) _ (HG.out _))) | (refine Ht.qloadImpl rfl _ rfl ba (oa + i * 2) rfl p hrg ?_) | quiet_step ((go_at_call 38; with_reducible exact Calls.after (v := .tuple #[.int .i64 gv, .bool gb]) _ (HG.out _))) | (refine wpQuiet_step (fun K hK => ?_); go_simp; split <;> (refine hK _ ?_; clear hK K))))
                        all_goals (refine wpQuiet_nil ?_; intro s)
                        have HB2 := Lib.hid (step_ HB.out (Nat.le_refl _) s.hb)
                        have HB3 := Lib.hid (step_ HBI.out (Nat.le_refl _) s.hb)
                        obtain ⟨ws, hws⟩ : ∃ ws, ws = s.w' := ⟨_, rfl⟩
                        rw [← hws] at HB2 HB3 ⊢
                        clear hws s hck hpx hpy hrg HB HBI HG
                        cases nb with
                        | true =>
                          go_wp2_with fail
                          go_meet
                          exact ⟨true, rfl, fun _ => rfl, HB2, HB3⟩
                        | false =>
                          have hk1 : ¬ k0 < i := fun h => absurd (HNB.out h) (by simp)
                          cases gb with
                          | false =>
                            have HNO := Lib.hid (show ¬ k0 < i + 1 from fun h => absurd (HWI.out (by omega)).1 (by simp))
                            go_wp2_with fail
                            go_meet
                            exact ⟨false, rfl, fun h => absurd h HNO.out, HB2, HB3⟩
                          | true =>
                            by_cases g1 : 0 < gv
                            · by_cases g2 : gv ≤ q
                              · go_wp2_with fail
                                go_meet
                                exact ⟨true, rfl, fun _ => rfl, HB2, HB3⟩
                              · have HNO := Lib.hid (show ¬ k0 < i + 1 from fun h => absurd (HWI.out (by omega)).2.2 g2)
                                go_wp2_with fail
                                go_meet
                                exact ⟨false, rfl, fun h => absurd h HNO.out, HB2, HB3⟩
                            · have HNO := Lib.hid (show ¬ k0 < i + 1 from fun h => absurd (HWI.out (by omega)).2.1 g1)
                              go_wp2_with fail
                              go_meet
                              exact ⟨false, rfl, fun h => absurd h HNO.out, HB2, HB3⟩
                      case rest =>
                        obtain ⟨nb2, rfl, HNB2, HB2, HB3⟩ := hcut
                        go_wp2_with fail
                        go_roundw
                        case rel => exact ⟨i + 1, nb2, by omega, by go_num, rfl, HNB2, HB2, HB3.out⟩
                        case measure => simp [intOf]; omega
                    · obtain rfl : nb = true := HNB.out (by omega)
                      go_wp2_with fail
                      go_roundw
                      case rel => exact ⟨k + 1, by omega, by go_num, HB, hbi⟩
                      case measure => simp [intOf]; omega
                · go_wp2_with fail
                  go_meet
                  exact HB
            case rest =>
              clear HB HA HCL HPC HP HK HIN hc hm hc1 hm1 hxl
              have HB := hcut
              clear hcut
              go_wp2_with fail
              refine (draw_RoundRank v0 m _ (HC.out.below HB.out)).mono ?_
              rintro e w' ⟨v, xs, rfl, hs, hxl, _, hb⟩
              replace HB := Lib.hid (step_ HB.out (Nat.le_refl _) hb)
              have HS := Lib.hid hs
              have HI3 := Lib.hid (show ∀ W, HtS W v xs → _ from fun W hW => impl_RoundRank xs (xs.map Ht.k) v W rfl hW (by omega))
              have HJ3 := Lib.hid (show ∀ W, HtS W v xs → _ from fun W hW => spec_RoundRank xs (xs.map Ht.k) v W rfl hW (by omega))
              have HK3 := Lib.hid (show ∀ W, HtS W v xs → _ from fun W hW => IsRound_any xs v W hW (by omega))
              have HFR := Lib.hid (rank_facts xs)
              have HRL := Lib.hid (rank_few (xs.map Ht.k))
              generalize goodR (xs.map Ht.k) = ok at HI3 HJ3 HK3 HFR
              generalize rkV (xs.map Ht.k) = rk at HI3 HJ3 HFR HRL
              clear hs hb
              go_wp2_with fail
              refine (HI3.out _ HS.out).mono ?_
              rintro e w' ⟨r1, rfl, row1, hb⟩
              replace HB := Lib.hid (step_ HB.out (Nat.le_refl _) hb)
              replace HS := Lib.hid (HS.out.below hb)
              have HR1 := Lib.hid (Sl.of_flat row1)
              clear row1 hb HI3
              go_wp2_with fail
              refine (HJ3.out _ HS.out).mono ?_
              rintro e w' ⟨r2, rfl, row2, hb⟩
              replace HB := Lib.hid (step_ HB.out (Nat.le_refl _) hb)
              replace HS := Lib.hid (HS.out.below hb)
              replace HR1 := Lib.hid (Sl.below (Flat.keeps _) HR1.out hb)
              have HE := Lib.hid (rInts_refl rk r1 r2 _ HR1.out (Sl.of_flat row2))
              clear row2 hb HJ3
              go_upto_region 39 with fail
              go_cut [196] (fun b wx => b = .bool false ∧ Hid (Below w.heap.size w wx) ∧ Hid (HtS wx v xs) ∧ Hid (Sl (Flat ints) 1 wx r1 rk))
              case first => as_aux_lemma =>
                cases ok with
                | false =>
                  go_wp2_with fail
                  refine (HE.out).mono ?_
                  rintro e w' ⟨rfl, hb⟩
                  replace HB := Lib.hid (step_ HB.out (Nat.le_refl _) hb)
                  replace HS := Lib.hid (HS.out.below hb)
                  replace HR1 := Lib.hid (Sl.below (Flat.keeps _) HR1.out hb)
                  clear hb
                  go_wp2_with fail
                  refine (HK3.out _ HS.out).mono ?_
                  rintro e w' ⟨rfl, hb⟩
                  replace HB := Lib.hid (step_ HB.out (Nat.le_refl _) hb)
                  replace HS := Lib.hid (HS.out.below hb)
                  replace HR1 := Lib.hid (Sl.below (Flat.keeps _) HR1.out hb)
                  clear hb
                  go_wp2_with fail
                  go_meet
                  exact ⟨rfl, HB, HS, HR1⟩
                | true =>
                  go_wp2_with fail
                  refine (HE.out).mono ?_
                  rintro e w' ⟨rfl, hb⟩
                  replace HB := Lib.hid (step_ HB.out (Nat.le_refl _) hb)
                  replace HS := Lib.hid (HS.out.below hb)
                  replace HR1 := Lib.hid (Sl.below (Flat.keeps _) HR1.out hb)
                  clear hb
                  go_wp2_with fail
                  refine (HK3.out _ HS.out).mono ?_
                  rintro e w' ⟨rfl, hb⟩
                  replace HB := Lib.hid (step_ HB.out (Nat.le_refl _) hb)
                  replace HS := Lib.hid (HS.out.below hb)
                  replace HR1 := Lib.hid (Sl.below (Flat.keeps _) HR1.out hb)
                  clear hb
                  go_wp2_with fail
                  go_meet
                  exact ⟨rfl, HB, HS, HR1⟩
              case rest =>
                clear HB HS HR1 HE HK3
                obtain ⟨rfl, HB, HS, HR1⟩ := hcut
                obtain ⟨A, c, rfl, hc, hm, hk⟩ := HS.out.1.open_
                have HK := Lib.hid hk
                have HIN := Lib.hid HS.out.2
                obtain ⟨A1, c1, rfl, -, -, -⟩ := HR1.out.open_
                have hr24 := HRL.out
                clear hk HS HRL
                go_wp2_with fail
                go_loopw [9, 28] (fun nv i wr => ∃ k : Nat, k ≤ xs.length ∧ i = .int .i64 k ∧ nv = .int .i64 (sumP xs k : Nat) ∧ Hid (Below w.heap.size w wr) ∧ Below wc.heap.size wc wr)
                  (fun _ i _ => xs.length - (intOf i).toNat)
                case atStart => exact ⟨0, Nat.zero_le _, rfl, rfl, HB, Below.refl _ _⟩
                case round =>
                  clear HB
                  obtain ⟨k, hkl, rfl, rfl, HB, hb'⟩ := hrel
                  by_cases hlt : k < xs.length
                  · cases ok with
                    | false =>
                      go_wp2_with fail
                      go_ret
                      exact ⟨rfl, HB.out⟩
                    | true =>
                      obtain ⟨hgd, hsub, hle⟩ := (HFR.out rfl).2 k hlt
                      obtain ⟨b, off, rfl, hat⟩ := flat_at HK.out (by omega)
                      have hr0 := rangeAt_below (hat k hlt) hb'
                      have hin := (HIN.out _ (List.getElem_mem hlt)).below hb'
                      have HPL := Lib.hid (impl_PlacingOf xs[k] xs[k].k _ rfl hin)
                      rw [hgd] at HPL
                      have hst := sumP_step xs hlt
                      have HSUB := Lib.hid hsub
                      generalize plV xs[k].k = pl at HPL HSUB hst
                      generalize xs[k] = p at hr0 HPL
                      have hwn : IntKind.i64.wrap (((sumP xs k : Nat) : Int) + (pl.length : Int)) = ((sumP xs (k + 1) : Nat) : Int) := by rw [IntKind.wrap_i64]; omega
                      obtain ⟨s2, hs2⟩ : ∃ s2, s2 = sumP xs (k + 1) := ⟨_, rfl⟩
                      rw [← hs2] at hwn
                      have HS2 := Lib.hid hs2
                      generalize sumP xs k = s1 at hwn ⊢
                      have hz1 : (0 : Int) ≤ (k : Int) := by omega
                      have hz2 : (k : Int) < (xs.length : Int) := by omega
                      have HR1w := Lib.hid (HR1.out.below (Flat.keeps _) hb')
                      clear hgd hsub hat hin hst hle hs2
                      go_wp2_with ((with_reducible refine at_load_ 28 ?_); refine Ht.loadImpl rfl _ rfl b (off + k * 2) rfl p hr0 ?_)
                      refine HPL.out.mono ?_
                      rintro e w2 ⟨r, rfl, row2, hb2⟩
                      have HBW := Lib.hid (And.intro (step_ HB.out (Nat.le_refl _) hb2) (step_ hb' (Nat.le_refl _) hb2))
                      have HR2 := Lib.hid (Sl.below (Flat.keeps _) HR1w.out hb2)
                      obtain ⟨A2, c2, rfl, -, -⟩ := row2.parts
                      simp only [List.length_map] at row2 ⊢
                      clear hb2 hr0 hb' HB HPL
                      by_cases h0 : 0 < pl.length
                      · obtain ⟨g, cap, he, -, -, -⟩ := row2.form (by simpa using h0)
                        simp only [Value.slice.injEq] at he
                        obtain ⟨rfl, -, -⟩ := he
                        have hr1 := row2.range (k := 0) (by simpa using h0)
                        rw [List.getElem_map, Nat.zero_mul] at hr1
                        have hcx := int_at hr1
                        have hmem := HSUB.out _ (List.getElem_mem h0)
                        have HQ := Lib.hid (rHas_any rk pl[0] (.slice A1 rk.length c1) w2 HR2.out)
                        rw [decide_eq_true hmem] at HQ
                        generalize pl[0] = x at hcx HQ
                        have hpz : (0 : Int) < (pl.length : Int) := by omega
                        clear hr1 hmem row2
                        go_wp2_with fail
                        refine HQ.out.mono ?_
                        rintro e w3 ⟨rfl, hb3⟩
                        go_wp2_with fail
                        go_roundw
                        case rel => exact ⟨k + 1, by omega, by go_num, by rw [HS2.out], Lib.hid (step_ HBW.out.1 (Nat.le_refl _) hb3), step_ HBW.out.2 (Nat.le_refl _) hb3⟩
                        case measure => simp [intOf]; omega
                      · have hpz : ¬ (0 : Int) < (pl.length : Int) := by omega
                        clear row2
                        go_wp2_with fail
                        go_roundw
                        case rel => exact ⟨k + 1, by omega, by go_num, by rw [HS2.out], Lib.hid HBW.out.1, HBW.out.2⟩
                        case measure => simp [intOf]; omega
                  · obtain rfl : k = xs.length := by omega
                    cases ok with
                    | false =>
                      go_wp2_with fail
                      go_ret
                      exact ⟨rfl, HB.out⟩
                    | true =>
                      have HN := (HFR.out rfl).1
                      rw [HN]
                      clear HN
                      go_wp2_with fail
                      go_ret
                      exact ⟨by simp, HB.out⟩
end Go.Proofs.Ytabgmbmaakglkaa
