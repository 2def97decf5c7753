/- The walk of the law FnResults: it returns true. No condition. -/
import Derived.Test.YtojpklpfnmjikaaRfQ
import Derived.Test.YtojpklpfnmjikaaReA
import Derived.Test.YtojpklpfnmjikaaReB
import Derived.Test.YtojpklpfnmjikaaReC
import Derived.Test.YtojpklpfnmjikaaReD
import Derived.Test.YtojpklpfnmjikaaRoB
import Derived.Test.YtojpklpfnmjikaaRoC
import Derived.Test.YtojpklpfnmjikaaDrRe
import Derived.Test.YtojpklpfnmjikaaByte
import Derived.Test.YtojpklpfnmjikaaVsm
namespace Go.Proofs.Ytojpklpfnmjikaa
open Go Go.RowKit

theorem near_i64 {x : Int} (h : -100000 ≤ x ∧ x ≤ 100000) : I64 x := by unfold I64; omega
theorem codes_i64 {cs : List Int} (h : ∀ x ∈ cs, 0 ≤ x ∧ x ≤ 100) : ∀ x ∈ cs, I64 x := fun x hx => near_i64 (by have := h x hx; omega)
theorem row_at {base : Nat} {W : World} {A : Option Addr} {m d : Nat} {xs : List Int} (h : Row base 3 1 W (.slice A m d) (xs.map ints)) {i : Nat} (hi : i < xs.length) : ∃ g, A = some ⟨g, 0, none⟩ ∧ W.cell? ⟨g, i, none⟩ = some (.int .i64 xs[i]) := by
  obtain ⟨g, cap, he, _, _, _⟩ := h.form (by simp; omega)
  simp only [Value.slice.injEq, List.length_map] at he
  obtain ⟨rfl, _, _⟩ := he
  refine ⟨g, rfl, ?_⟩
  have r1 := h.range (k := i) (by simpa using hi)
  simp only [List.getElem_map] at r1
  have r2 := int_at r1
  rwa [Nat.mul_one] at r2
set_option maxRecDepth 100000 in
set_option maxHeartbeats 16000000 in
theorem fnResults_walk (v0 : Value) (m : Nat) (w : World) (h0 : CodeS w v0 m) :
    Calls Try.prog 12 #[v0] w fun e w' => e = .returned (.bool true) ∧ Below w.heap.size w w' := by
  obtain ⟨q, hq⟩ : ∃ q, q = decide (65536 < m) := ⟨_, rfl⟩
  have HC := Lib.hid h0
  have HV := Lib.hid (vBig_any v0 m q w h0 hq)
  have HB := Lib.hid (Below.refl w.heap.size w)
  clear hq h0
  cases q with
  | true =>
    go_enter Try.func12, Try.ntmps12
    go_wp2_with fail
    refine (HV.out).mono ?_
    rintro e w' ⟨rfl, hb⟩
    replace HB := Lib.hid (step_ HB.out (Nat.le_refl _) hb)
    go_wp2_with fail
    go_ret
    exact ⟨rfl, HB.out⟩
  | false =>
    go_enter Try.func12, Try.ntmps12
    go_wp2_with fail
    refine (HV.out).mono ?_
    rintro e w' ⟨rfl, hb⟩
    replace HB := Lib.hid (step_ HB.out (Nat.le_refl _) hb)
    clear hb HV
    go_wp2_with fail
    refine (draw_ResultOrder v0 m _ (HC.out.below HB.out)).mono ?_
    rintro e w' ⟨v, zs, u, cs, lim, rfl, hr, hzl, hs, hcx, hlim, hb⟩
    replace HB := Lib.hid (step_ HB.out (Nat.le_refl _) hb)
    have hci := codes_i64 hcx
    have hli : I64 lim := near_i64 (by omega)
    have HR := Lib.hid hr
    have HS := Lib.hid hs
    have HI1 := Lib.hid (show ∀ W, RunS W v zs → Sl (Flat ints) 1 W u cs → _ from fun W hW hS => impl_ResultOrder zs (zs.map Run.k) v cs u lim W rfl hW hS hci hli)
    have HJ1 := Lib.hid (show ∀ W, RunS W v zs → Sl (Flat ints) 1 W u cs → _ from fun W hW hS => spec_ResultOrder zs (zs.map Run.k) v cs u lim W rfl hW hS hci hli)
    have HI2 := Lib.hid (show ∀ W, RunS W v zs → _ from fun W hW => impl_AreRuns zs (zs.map Run.k) v W rfl hW)
    have HJ2 := Lib.hid (show ∀ W, RunS W v zs → _ from fun W hW => spec_AreRuns zs (zs.map Run.k) v W rfl hW)
    have HI3 := Lib.hid (show ∀ W, RunS W v zs → Sl (Flat ints) 1 W u cs → _ from fun W hW hS => impl_StatusCounts zs (zs.map Run.k) v cs u lim W rfl hW hS hci hli)
    have HJ3 := Lib.hid (show ∀ W, RunS W v zs → Sl (Flat ints) 1 W u cs → _ from fun W hW hS => spec_StatusCounts zs (zs.map Run.k) v cs u lim W rfl hW hS hci hli)
    have HI4 := Lib.hid (show ∀ W, RunS W v zs → Sl (Flat ints) 1 W u cs → _ from fun W hW hS => impl_TimesBehind zs (zs.map Run.k) v cs u lim W rfl hW hS hci hli)
    have HJ4 := Lib.hid (show ∀ W, RunS W v zs → Sl (Flat ints) 1 W u cs → _ from fun W hW hS => spec_TimesBehind zs (zs.map Run.k) v cs u lim W rfl hW hS hci hli)
    have HI5 := Lib.hid (show ∀ r W, I64 r → RunS W v zs → Sl (Flat ints) 1 W u cs → _ from fun r W hi hW hS => impl_StatusOf zs (zs.map Run.k) v cs u lim r W rfl hW hS hci hli hi)
    have HI6 := Lib.hid (show ∀ r W, I64 r → RunS W v zs → Sl (Flat ints) 1 W u cs → _ from fun r W hi hW hS => impl_RankOfRun zs (zs.map Run.k) v cs u lim r W rfl hW hS hci hli hi)
    have HF1 := Lib.hid (show askR (zs.map Run.k) cs lim = true → _ from fun h => cnt_ask h)
    have hf2 : ∀ ro, ro = roV (zs.map Run.k) cs lim → askR (zs.map Run.k) cs lim = true → ro.length = zs.length ∧ ∀ i (hi : i < ro.length), (1 ≤ ro[i] ∧ ro[i] ≤ 99) ∧ (stoV (zs.map Run.k) cs lim ro[i]).2 = true ∧ (rkV (zs.map Run.k) cs lim ro[i]).2 = true ∧ (0 ≤ (stoV (zs.map Run.k) cs lim ro[i]).1) ∧
        (0 < (rkV (zs.map Run.k) cs lim ro[i]).1 ↔ (stoV (zs.map Run.k) cs lim ro[i]).1 = 0) ∧ (rkV (zs.map Run.k) cs lim ro[i]).1 ≤ (i : Int) + 1 ∧ ∀ h0 : 0 < i, (stoV (zs.map Run.k) cs lim (ro[i - 1]'(by omega))).1 ≤ (stoV (zs.map Run.k) cs lim ro[i]).1 := by
      rintro ro rfl h
      have := order_ask h
      simpa using this
    have hf3 : ∀ tb, tb = tbV (zs.map Run.k) cs lim → askR (zs.map Run.k) cs lim = true → tb.length = zs.length ∧ ∀ i (hi : i < zs.length) (hi' : i < tb.length), (rkV (zs.map Run.k) cs lim zs[i].runner).2 = true ∧ ((rkV (zs.map Run.k) cs lim zs[i].runner).1 = 1 ↔ tb[i] = 0) := by
      rintro tb rfl h
      obtain ⟨h1, h2⟩ := behind_ask h
      refine ⟨by simpa using h1, fun i hi hi' => ?_⟩
      have := h2 i (by simpa using hi) hi'
      simpa [Run.k] using this
    obtain ⟨ro, hro⟩ : ∃ ro, ro = roV (zs.map Run.k) cs lim := ⟨_, rfl⟩
    obtain ⟨tb, htb⟩ : ∃ tb, tb = tbV (zs.map Run.k) cs lim := ⟨_, rfl⟩
    have HF2 := Lib.hid (hf2 ro hro)
    have HF3 := Lib.hid (hf3 tb htb)
    rw [← hro] at HI1 HJ1
    rw [← htb] at HI4 HJ4
    clear hf2 hf3 hro htb
    have HF4 := Lib.hid (show askR (zs.map Run.k) cs lim = true → ∀ k (h : k < zs.length), 1 ≤ zs[k].runner ∧ zs[k].runner ≤ 99 from fun h k hk => runner_small (ask_good h) (List.mem_map_of_mem (f := Run.k) (List.getElem_mem hk)))
    generalize askR (zs.map Run.k) cs lim = ok at *
    generalize goodRs (zs.map Run.k) = gr at *
    generalize cntV (zs.map Run.k) cs lim = cn at *
    clear hr hs hcx hlim hb hci hli
    go_wp2_with fail
    refine (HI1.out _ HR.out HS.out).mono ?_
    rintro e w' ⟨r1, rfl, row1, hb⟩
    replace HB := Lib.hid (step_ HB.out (Nat.le_refl _) hb)
    replace HR := Lib.hid (HR.out.below hb)
    replace HS := Lib.hid (Sl.below (Flat.keeps _) HS.out hb)
    have HA1 := Lib.hid row1
    clear row1 hb HI1
    go_wp2_with fail
    refine (HJ1.out _ HR.out HS.out).mono ?_
    rintro e w' ⟨r2, rfl, row2, hb⟩
    replace HB := Lib.hid (step_ HB.out (Nat.le_refl _) hb)
    replace HR := Lib.hid (HR.out.below hb)
    replace HS := Lib.hid (Sl.below (Flat.keeps _) HS.out hb)
    replace HA1 := Lib.hid (HA1.out.below hb)
    have HA2 := Lib.hid row2
    clear row2 hb HJ1
    go_wp2_with fail
    refine (vInts_refl ro r1 r2 _ (Sl.of_flat HA1.out) (Sl.of_flat HA2.out)).mono ?_
    rintro e w' ⟨rfl, hb⟩
    replace HB := Lib.hid (step_ HB.out (Nat.le_refl _) hb)
    replace HR := Lib.hid (HR.out.below hb)
    replace HS := Lib.hid (Sl.below (Flat.keeps _) HS.out hb)
    replace HA1 := Lib.hid (HA1.out.below hb)
    clear hb HA2
    go_wp2_with fail
    refine (HI2.out _ HR.out).mono ?_
    rintro e w' ⟨rfl, hb⟩
    replace HB := Lib.hid (step_ HB.out (Nat.le_refl _) hb)
    replace HR := Lib.hid (HR.out.below hb)
    replace HS := Lib.hid (Sl.below (Flat.keeps _) HS.out hb)
    replace HA1 := Lib.hid (HA1.out.below hb)
    clear hb HI2
    go_wp2_with fail
    refine (HJ2.out _ HR.out).mono ?_
    rintro e w' ⟨rfl, hb⟩
    replace HB := Lib.hid (step_ HB.out (Nat.le_refl _) hb)
    replace HR := Lib.hid (HR.out.below hb)
    replace HS := Lib.hid (Sl.below (Flat.keeps _) HS.out hb)
    replace HA1 := Lib.hid (HA1.out.below hb)
    clear hb HJ2
    go_wp2_with fail
    refine (HI3.out _ HR.out HS.out).mono ?_
    rintro e w' ⟨r3, rfl, row3, hb⟩
    replace HB := Lib.hid (step_ HB.out (Nat.le_refl _) hb)
    replace HR := Lib.hid (HR.out.below hb)
    replace HS := Lib.hid (Sl.below (Flat.keeps _) HS.out hb)
    replace HA1 := Lib.hid (HA1.out.below hb)
    have HA3 := Lib.hid row3
    clear row3 hb HI3
    go_wp2_with fail
    refine (HJ3.out _ HR.out HS.out).mono ?_
    rintro e w' ⟨r4, rfl, row4, hb⟩
    replace HB := Lib.hid (step_ HB.out (Nat.le_refl _) hb)
    replace HR := Lib.hid (HR.out.below hb)
    replace HS := Lib.hid (Sl.below (Flat.keeps _) HS.out hb)
    replace HA1 := Lib.hid (HA1.out.below hb)
    replace HA3 := Lib.hid (HA3.out.below hb)
    have HA4 := Lib.hid row4
    clear row4 hb HJ3
    go_wp2_with fail
    refine (vInts_refl cn r3 r4 _ (Sl.of_flat HA3.out) (Sl.of_flat HA4.out)).mono ?_
    rintro e w' ⟨rfl, hb⟩
    replace HB := Lib.hid (step_ HB.out (Nat.le_refl _) hb)
    replace HR := Lib.hid (HR.out.below hb)
    replace HS := Lib.hid (Sl.below (Flat.keeps _) HS.out hb)
    replace HA1 := Lib.hid (HA1.out.below hb)
    replace HA3 := Lib.hid (HA3.out.below hb)
    clear hb HA4
    go_wp2_with fail
    refine (HI4.out _ HR.out HS.out).mono ?_
    rintro e w' ⟨r5, rfl, row5, hb⟩
    replace HB := Lib.hid (step_ HB.out (Nat.le_refl _) hb)
    replace HR := Lib.hid (HR.out.below hb)
    replace HS := Lib.hid (Sl.below (Flat.keeps _) HS.out hb)
    replace HA1 := Lib.hid (HA1.out.below hb)
    replace HA3 := Lib.hid (HA3.out.below hb)
    have HA5 := Lib.hid row5
    clear row5 hb HI4
    go_wp2_with fail
    refine (HJ4.out _ HR.out HS.out).mono ?_
    rintro e w' ⟨r6, rfl, row6, hb⟩
    replace HB := Lib.hid (step_ HB.out (Nat.le_refl _) hb)
    replace HR := Lib.hid (HR.out.below hb)
    replace HS := Lib.hid (Sl.below (Flat.keeps _) HS.out hb)
    replace HA1 := Lib.hid (HA1.out.below hb)
    replace HA3 := Lib.hid (HA3.out.below hb)
    replace HA5 := Lib.hid (HA5.out.below hb)
    have HA6 := Lib.hid row6
    clear row6 hb HJ4
    go_wp2_with fail
    refine (vInts_refl tb r5 r6 _ (Sl.of_flat HA5.out) (Sl.of_flat HA6.out)).mono ?_
    rintro e w' ⟨rfl, hb⟩
    replace HB := Lib.hid (step_ HB.out (Nat.le_refl _) hb)
    replace HR := Lib.hid (HR.out.below hb)
    replace HS := Lib.hid (Sl.below (Flat.keeps _) HS.out hb)
    replace HA1 := Lib.hid (HA1.out.below hb)
    replace HA3 := Lib.hid (HA3.out.below hb)
    replace HA5 := Lib.hid (HA5.out.below hb)
    clear hb HA6
    obtain ⟨A1, d1, rfl, -, -⟩ := HA1.out.parts
    obtain ⟨A5, d5, rfl, -, -⟩ := HA5.out.parts
    obtain ⟨AV, dv, rfl, -, -, -⟩ := HR.out.1.open_
    simp only [List.length_map] at HA1 HA5 ⊢
    go_upto_if 133 with fail
    go_cut [] (fun wx => Hid (Below w.heap.size w wx))
    case first =>
      cases ok with
      | false =>
        go_wp2_with fail
        go_meet
        exact HB
      | true =>
        obtain ⟨c1, c2, c3⟩ := HF1.out rfl
        obtain ⟨o1, o2⟩ := HF2.out rfl
        obtain ⟨b1, b2⟩ := HF3.out rfl
        have HO2 := Lib.hid o2
        have HBE := Lib.hid b2
        have HX := Lib.hid (HF4.out rfl)
        have hc1 : cn.sum = (zs.length : Int) := by simpa using c1
        clear HF1 HF2 HF3 HF4 o2 b2 c1
        have HSU := Lib.hid (vSum_any cn r3 _ (Sl.of_flat HA3.out) c2 (by omega))
        rw [hc1] at HSU
        clear c2 c3 hc1
        have HN1 := Lib.hid o1
        have HN5 := Lib.hid b1
        have hne1 : ((ro.length : Int) != (zs.length : Int)) = false := by simp [o1]
        have hne2 : ((zs.length : Int) != (zs.length : Int)) = false := by simp
        clear o1 b1
        go_wp2_with fail
        refine (HSU.out).mono ?_
        rintro e w' ⟨rfl, hb⟩
        replace HB := Lib.hid (step_ HB.out (Nat.le_refl _) hb)
        replace HR := Lib.hid (HR.out.below hb)
        replace HS := Lib.hid (Sl.below (Flat.keeps _) HS.out hb)
        replace HA1 := Lib.hid (HA1.out.below hb)
        replace HA5 := Lib.hid (HA5.out.below hb)
        clear HSU HA3
        go_upto_block 0 with fail
        have HVK := Lib.hid (show ∀ W, Below w'.heap.size w' W → ∀ i (hi : i < zs.length), ∃ b off, AV = some ⟨b, off, none⟩ ∧ W.cell? ⟨b, off + i * 7, none⟩ = some (.int .i64 zs[i].runner) from fun W hW i hi => by
          obtain ⟨A, c, e, _, _, hk⟩ := HR.out.1.open_
          simp only [Value.slice.injEq] at e
          obtain ⟨rfl, _, _⟩ := e
          obtain ⟨b, off, rfl, hat⟩ := flat_at hk (by omega)
          exact ⟨b, off, rfl, (Run.cells (rangeAt_below (hat i hi) hW)).1⟩)
        clear hb
        go_cut [18] (fun _ wx => Hid (Below w'.heap.size w' wx))
        case first =>
          go_wp2_with fail
          go_loopw [18, 19] (fun sv iv wr => ∃ (i : Nat) (s : Int), i ≤ ro.length ∧ iv = .int .i64 i ∧ sv = .int .i64 s ∧ Hid (∀ h : i < ro.length, s ≤ (stoV (zs.map Run.k) cs lim ro[i]).1) ∧ Hid (Below w'.heap.size w' wr))
            (fun _ iv _ => ro.length - (intOf iv).toNat)
          case atStart => exact ⟨0, 0, Nat.zero_le _, rfl, rfl, (fun h => (HO2.out 0 h).2.2.2.1), Below.refl _ _⟩
          case round =>
            obtain ⟨i, s, hil, rfl, rfl, HSL, HBL⟩ := hrel
            by_cases hir : i < ro.length
            · have hii : (i : Int) < (ro.length : Int) := by omega
              have hi0 : (0 : Int) ≤ (i : Int) := by omega
              have hi11 : i ≤ 11 := by have := HN1.out; omega
              have HAW := Lib.hid (HA1.out.below HBL.out)
              obtain ⟨g, rfl, hcell⟩ := row_at HAW.out hir
              obtain ⟨q1, q2, q3, q4, q5, q6, q7⟩ := HO2.out i hir
              have hs1 := HSL.out hir
              have HNX := Lib.hid (show ∀ h : i + 1 < ro.length, (stoV (zs.map Run.k) cs lim ro[i]).1 ≤ (stoV (zs.map Run.k) cs lim ro[i + 1]).1 from fun h => (HO2.out (i + 1) h).2.2.2.2.2.2 (by omega))
              generalize ro[i] = r at *
              have HCA := Lib.hid (show ∀ W, Below w'.heap.size w' W → _ from fun W hW => HI5.out r W (near_i64 (by omega)) (HR.out.below hW) (Sl.below (Flat.keeps _) HS.out hW))
              have HCB := Lib.hid (show ∀ W, Below w'.heap.size w' W → _ from fun W hW => HI6.out r W (near_i64 (by omega)) (HR.out.below hW) (Sl.below (Flat.keeps _) HS.out hW))
              rw [q2] at HCA
              rw [q3] at HCB
              clear q2 q3
              generalize (stoV (zs.map Run.k) cs lim r).1 = s1 at *
              generalize (rkV (zs.map Run.k) cs lim r).1 = k1 at *
              have hwi : IntKind.i64.wrap ((i : Int) + 1) = (i : Int) + 1 := by rw [IntKind.wrap_i64]; omega
              have hlt1 : ¬ s1 < s := by omega
              have hkk : ¬ (i : Int) + 1 < k1 := by omega
              have hbb : decide (0 < k1) = (s1 == 0) := by rw [Bool.eq_iff_iff]; simp [q5]
              go_wp2_with fail
              refine (HCA.out _ HBL.out).mono ?_
              rintro e w2 ⟨rfl, hb2⟩
              have HB2 := Lib.hid (step_ HBL.out (Nat.le_refl _) hb2)
              have hcell2 : w2.cell? ⟨g, i, none⟩ = some (.int .i64 r) := After.keep hcell ⟨_, hb2⟩
              clear hb2 hcell
              go_wp2_with fail
              refine (HCB.out _ HB2.out).mono ?_
              rintro e w3 ⟨rfl, hb3⟩
              have HB3 := Lib.hid (step_ HB2.out (Nat.le_refl _) hb3)
              clear hb3 hcell2
              go_wp2_with fail
              go_roundw
              case rel => exact ⟨i + 1, s1, by omega, by go_num, rfl, HNX.out, HB3.out⟩
              case measure => simp [intOf]; omega
            · have hii : ¬ (i : Int) < (ro.length : Int) := by omega
              go_wp2_with fail
              go_meet
              exact HBL
        case rest =>
          have HBL := hcut
          clear hcut HO2
          go_upto_block 2 with fail
          go_wp2_with fail
          go_loopw [24] (fun iv wr => ∃ i : Nat, i ≤ zs.length ∧ iv = .int .i64 i ∧ Hid (Below w'.heap.size w' wr))
            (fun iv _ => zs.length - (intOf iv).toNat)
          case atStart => exact ⟨0, Nat.zero_le _, rfl, HBL.out⟩
          case round =>
            clear HBL
            obtain ⟨i, hil, rfl, HBL⟩ := hrel
            by_cases hi : i < zs.length
            · have hii : (i : Int) < (zs.length : Int) := by omega
              have hi0 : (0 : Int) ≤ (i : Int) := by omega
              have hit : i < tb.length := by rw [HN5.out]; exact hi
              have hiti : (i : Int) < (tb.length : Int) := by omega
              have HAW := Lib.hid (HA5.out.below HBL.out)
              obtain ⟨g, rfl, hcell⟩ := row_at HAW.out hit
              obtain ⟨b, off, rfl, hrc⟩ := HVK.out _ HBL.out i hi
              obtain ⟨q1, q2⟩ := HBE.out i hi hit
              have hx := HX.out i hi
              generalize tb[i] = y at *
              obtain ⟨r, hr⟩ : ∃ r, zs[i].runner = r := ⟨_, rfl⟩
              rw [hr] at hrc q1 q2 hx
              clear hr
              have HCB := Lib.hid (show ∀ W, Below w'.heap.size w' W → _ from fun W hW => HI6.out r W (near_i64 (by omega)) (HR.out.below hW) (Sl.below (Flat.keeps _) HS.out hW))
              rw [q1] at HCB
              clear q1
              generalize (rkV (zs.map Run.k) cs lim r).1 = k1 at *
              have hbb : (k1 == 1) = (y == 0) := by rw [Bool.eq_iff_iff]; simp [q2]
              clear q2
              go_wp2_with fail
              refine (HCB.out _ HBL.out).mono ?_
              rintro e w2 ⟨rfl, hb2⟩
              have HB2 := Lib.hid (step_ HBL.out (Nat.le_refl _) hb2)
              have hcell2 : w2.cell? ⟨g, i, none⟩ = some (.int .i64 y) := After.keep hcell ⟨_, hb2⟩
              clear hb2 hcell hrc
              go_wp2_with fail
              go_roundw
              case rel => exact ⟨i + 1, by omega, by go_num, HB2.out⟩
              case measure => simp [intOf]; omega
            · have hii : ¬ (i : Int) < (zs.length : Int) := by omega
              go_wp2_with fail
              go_meet
              exact Lib.hid (step_ HB.out (Nat.le_refl _) HBL.out)
    case rest =>
      have HB := hcut
      clear hcut HR HS HA1 HA3 HA5 HI5 HI6 HF1 HF2 HF3 HF4
      go_wp2_with fail
      refine (draw_StatusOf v0 m _ (HC.out.below HB.out)).mono ?_
      rintro e w' ⟨v, zs, u, cs, lim, r, rfl, hrr, hr, hzl, hs, hcx, hlim, hb⟩
      replace HB := Lib.hid (step_ HB.out (Nat.le_refl _) hb)
      have hci := codes_i64 hcx
      have hli : I64 lim := near_i64 (by omega)
      have hri : I64 r := near_i64 (by omega)
      have HR := Lib.hid hr
      have HS := Lib.hid hs
      have HI1 := Lib.hid (show ∀ W, RunS W v zs → Sl (Flat ints) 1 W u cs → _ from fun W hW hS => impl_StatusOf zs (zs.map Run.k) v cs u lim r W rfl hW hS hci hli hri)
      have HJ1 := Lib.hid (show ∀ W, RunS W v zs → Sl (Flat ints) 1 W u cs → _ from fun W hW hS => spec_StatusOf zs (zs.map Run.k) v cs u lim r W rfl hW hS hci hli hri)
      have HI2 := Lib.hid (show ∀ W, RunS W v zs → Sl (Flat ints) 1 W u cs → _ from fun W hW hS => impl_RankOfRun zs (zs.map Run.k) v cs u lim r W rfl hW hS hci hli hri)
      have HJ2 := Lib.hid (show ∀ W, RunS W v zs → Sl (Flat ints) 1 W u cs → _ from fun W hW hS => spec_RankOfRun zs (zs.map Run.k) v cs u lim r W rfl hW hS hci hli hri)
      generalize (stoV (zs.map Run.k) cs lim r).1 = s1 at HI1 HJ1
      generalize (stoV (zs.map Run.k) cs lim r).2 = s2 at HI1 HJ1
      generalize (rkV (zs.map Run.k) cs lim r).1 = t1 at HI2 HJ2
      generalize (rkV (zs.map Run.k) cs lim r).2 = t2 at HI2 HJ2
      clear hr hs hcx hlim hb hci hli hri hrr
      go_wp2_with fail
      refine (HI1.out _ HR.out HS.out).mono ?_
      rintro e w' ⟨rfl, hb⟩
      replace HB := Lib.hid (step_ HB.out (Nat.le_refl _) hb)
      replace HR := Lib.hid (HR.out.below hb)
      replace HS := Lib.hid (Sl.below (Flat.keeps _) HS.out hb)
      clear hb HI1
      go_wp2_with fail
      refine (HJ1.out _ HR.out HS.out).mono ?_
      rintro e w' ⟨rfl, hb⟩
      replace HB := Lib.hid (step_ HB.out (Nat.le_refl _) hb)
      replace HR := Lib.hid (HR.out.below hb)
      replace HS := Lib.hid (Sl.below (Flat.keeps _) HS.out hb)
      clear hb HJ1
      go_wp2_with fail
      refine (HI2.out _ HR.out HS.out).mono ?_
      rintro e w' ⟨rfl, hb⟩
      replace HB := Lib.hid (step_ HB.out (Nat.le_refl _) hb)
      replace HR := Lib.hid (HR.out.below hb)
      replace HS := Lib.hid (Sl.below (Flat.keeps _) HS.out hb)
      clear hb HI2
      go_wp2_with fail
      refine (HJ2.out _ HR.out HS.out).mono ?_
      rintro e w' ⟨rfl, hb⟩
      replace HB := Lib.hid (step_ HB.out (Nat.le_refl _) hb)
      replace HR := Lib.hid (HR.out.below hb)
      replace HS := Lib.hid (Sl.below (Flat.keeps _) HS.out hb)
      clear hb HJ2
      go_wp2_with fail
      go_ret
      exact ⟨rfl, HB.out⟩
end Go.Proofs.Ytojpklpfnmjikaa
