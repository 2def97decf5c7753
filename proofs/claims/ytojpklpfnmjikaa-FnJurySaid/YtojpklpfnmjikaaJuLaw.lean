/- The walk of the law FnJury: it returns true. No condition. -/
import Derived.Test.YtojpklpfnmjikaaSpT
import Derived.Test.YtojpklpfnmjikaaBlB
import Derived.Test.YtojpklpfnmjikaaReA
import Derived.Test.YtojpklpfnmjikaaDrJu
import Derived.Test.YtojpklpfnmjikaaVRe
import Derived.Test.YtojpklpfnmjikaaVs2
namespace Go.Proofs.Ytojpklpfnmjikaa
open Go Go.RowKit

theorem near_i64 {x : Int} (h : -100000 ≤ x ∧ x ≤ 100000) : I64 x := by unfold I64; omega
theorem codes_i64 {cs : List Int} (h : ∀ x ∈ cs, 0 ≤ x ∧ x ≤ 100) : ∀ x ∈ cs, I64 x := fun x hx => near_i64 (by have := h x hx; omega)
theorem row_at {base : Nat} {W : World} {A : Option Addr} {m d : Nat} {xs : List Int} (h : Row base 3 1 W (.slice A m d) (xs.map ints)) {i : Nat} (hi : i < xs.length) : ∃ g, A = some ⟨g, 0, none⟩ ∧ W.cell? ⟨g, i, none⟩ = some (.int .i64 xs[i]) := by
  obtain ⟨g, cap, he, _, _, _⟩ := h.form (by simp; omega)
  simp only [Value.slice.injEq, List.length_map] at he
  obtain ⟨rfl, _, _⟩ := he
  refine ⟨g, rfl, ?_⟩
  have r1 := h.range (k := i) (by simpa using hi)
  simp only [List.getElem_map] at r1
  have r2 := int_at r1
  rwa [Nat.mul_one] at r2
set_option maxRecDepth 100000 in
set_option maxHeartbeats 16000000 in
theorem fnJury_walk (v0 : Value) (m : Nat) (w : World) (h0 : CodeS w v0 m) :
    Calls Try.prog 13 #[v0] w fun e w' => e = .returned (.bool true) ∧ Below w.heap.size w w' := by
  obtain ⟨q, hq⟩ : ∃ q, q = decide (65536 < m) := ⟨_, rfl⟩
  have HC := Lib.hid h0
  have HV := Lib.hid (vBig_any v0 m q w h0 hq)
  have HB := Lib.hid (Below.refl w.heap.size w)
  clear hq h0
  cases q with
  | true =>
    go_enter Try.func13, Try.ntmps13
    go_wp2_with fail
    refine (HV.out).mono ?_
    rintro e w' ⟨rfl, hb⟩
    replace HB := Lib.hid (step_ HB.out (Nat.le_refl _) hb)
    go_wp2_with fail
    go_ret
    exact ⟨rfl, HB.out⟩
  | false =>
    go_enter Try.func13, Try.ntmps13
    go_wp2_with fail
    refine (HV.out).mono ?_
    rintro e w' ⟨rfl, hb⟩
    replace HB := Lib.hid (step_ HB.out (Nat.le_refl _) hb)
    clear hb HV
    go_wp2_with fail
    refine (draw_TakeOut v0 m _ (HC.out.below HB.out)).mono ?_
    rintro e w' ⟨v, zs, r, rfl, hrr, hr, hzl, hb⟩
    replace HB := Lib.hid (step_ HB.out (Nat.le_refl _) hb)
    have hri : I64 r := near_i64 (by omega)
    have HRI := Lib.hid hri
    have HR := Lib.hid hr
    have HI1 := Lib.hid (show ∀ W, RunS W v zs → _ from fun W hW => impl_TakeOut zs (zs.map Run.k) v r W rfl hW hri)
    have HJ1 := Lib.hid (show ∀ W, RunS W v zs → _ from fun W hW => spec_TakeOut zs (zs.map Run.k) v r W rfl hW hri)
    have HF := Lib.hid (@take_ask (zs.map Run.k) r)
    generalize takeB (zs.map Run.k) r = ok at HI1 HJ1 HF
    generalize takeL (zs.map Run.k) r = out at HI1 HJ1 HF
    clear hri hr hrr hzl hb
    go_wp2_with fail
    refine (HI1.out _ HR.out).mono ?_
    rintro e w' ⟨r1, z1, rfl, hz1, hr1, hb⟩
    replace HB := Lib.hid (step_ HB.out (Nat.le_refl _) hb)
    replace HR := Lib.hid (HR.out.below hb)
    have HA1 := Lib.hid hr1
    clear hr1 hb HI1
    go_wp2_with fail
    refine (HJ1.out _ HR.out).mono ?_
    rintro e w' ⟨r2, z2, rfl, hz2, hr2, hb⟩
    replace HB := Lib.hid (step_ HB.out (Nat.le_refl _) hb)
    replace HA1 := Lib.hid (HA1.out.below hb)
    have HA2 := Lib.hid hr2
    clear hr2 hb HJ1 HR
    go_wp2_with fail
    refine (vRuns_any z1 z2 r1 r2 _ HA1.out.s HA2.out.s (hz1.trans hz2.symm)).mono ?_
    rintro e w' ⟨rfl, hb⟩
    replace HB := Lib.hid (step_ HB.out (Nat.le_refl _) hb)
    replace HA1 := Lib.hid (HA1.out.below hb)
    have HZ1 := Lib.hid hz1
    clear hb HA2 hz1 hz2
    go_upto_if 66 with fail
    go_cut [] (fun wx => Hid (Below w.heap.size w wx))
    case first =>
      cases ok with
      | false =>
        go_wp2_with fail
        go_meet
        exact HB
      | true =>
        obtain ⟨f1, f2, f3⟩ := HF.out rfl
        have HS1 := Lib.hid (show ∀ W g, W.heap.size = g → RunS W r1 z1 → Calls Try.prog 25 #[r1, .slice (some ⟨g, 0, none⟩) 0 0, .int .i64 36000, .int .i64 r] (W.alloc (.cells #[] 3)) fun e w' => e = .returned (.tuple #[.int .i64 4, .bool true]) ∧ Below (W.alloc (.cells #[] 3)).heap.size (W.alloc (.cells #[] 3)) w' from fun W g hg hW => by
          subst hg
          have := impl_StatusOf z1 out r1 [] (.slice (some ⟨W.heap.size, 0, none⟩) 0 0) 36000 r (W.alloc (.cells #[] 3)) HZ1.out (hW.below (below_alloc (Below.refl _ _) _)) (Sl.of_flat (Row.lit_nil W 3 1 (base := W.heap.size) (Nat.le_refl _))) (by simp) (by unfold I64; omega) HRI.out
          rwa [f1] at this)
        have HS2 := Lib.hid (show ∀ W g, W.heap.size = g → RunS W r1 z1 → Calls Try.prog 28 #[r1, .slice (some ⟨g, 0, none⟩) 0 0, .int .i64 36000, .int .i64 r] (W.alloc (.cells #[] 3)) fun e w' => e = .returned (.tuple #[.int .i64 0, .bool true]) ∧ Below (W.alloc (.cells #[] 3)).heap.size (W.alloc (.cells #[] 3)) w' from fun W g hg hW => by
          subst hg
          have := impl_RankOfRun z1 out r1 [] (.slice (some ⟨W.heap.size, 0, none⟩) 0 0) 36000 r (W.alloc (.cells #[] 3)) HZ1.out (hW.below (below_alloc (Below.refl _ _) _)) (Sl.of_flat (Row.lit_nil W 3 1 (base := W.heap.size) (Nat.le_refl _))) (by simp) (by unfold I64; omega) HRI.out
          rwa [f2] at this)
        have HS3 := Lib.hid (show ∀ W, RunS W r1 z1 → _ from fun W hW => impl_TakeOut z1 out r1 r W HZ1.out hW HRI.out)
        rw [f3] at HS3
        clear f1 f2 f3 HF HZ1
        go_wp2_with fail
        refine (HS1.out _ _ rfl HA1.out.s).mono ?_
        rintro e w2 ⟨rfl, hb2⟩
        have hb3 := step_ (below_alloc (Below.refl w'.heap.size w') (.cells #[] 3)) (Nat.le_refl _) hb2
        replace HA1 := Lib.hid (HA1.out.below hb3)
        replace HB := Lib.hid (step_ HB.out (Nat.le_refl _) hb3)
        clear hb2 hb3 HS1
        go_wp2_with fail
        refine (HS2.out _ _ rfl HA1.out.s).mono ?_
        rintro e w3 ⟨rfl, hb2⟩
        have hb3 := step_ (below_alloc (Below.refl w2.heap.size w2) (.cells #[] 3)) (Nat.le_refl _) hb2
        replace HA1 := Lib.hid (HA1.out.below hb3)
        replace HB := Lib.hid (step_ HB.out (Nat.le_refl _) hb3)
        clear hb2 hb3 HS2
        go_wp2_with fail
        refine (HS3.out _ HA1.out.s).mono ?_
        rintro e w' ⟨r4, z4, rfl, _, _, hb⟩
        replace HB := Lib.hid (step_ HB.out (Nat.le_refl _) hb)
        go_wp2_with fail
        go_meet
        exact HB
    case rest =>
      have HB := hcut
      clear hcut HA1 HZ1 HF HRI
      go_wp2_with fail
      refine (draw_VoidCode v0 m _ (HC.out.below HB.out)).mono ?_
      rintro e w' ⟨v, zs, u, cs, lim, r, rfl, hrr, hr, hzl, hs, hcx, hlim, hb⟩
      replace HB := Lib.hid (step_ HB.out (Nat.le_refl _) hb)
      have hci := codes_i64 hcx
      have hli : I64 lim := near_i64 (by omega)
      have hri : I64 r := near_i64 (by omega)
      have HR := Lib.hid hr
      have HS := Lib.hid hs
      have HI1 := Lib.hid (show ∀ W, RunS W v zs → Sl (Flat ints) 1 W u cs → _ from fun W hW hS => impl_VoidCode zs (zs.map Run.k) v cs u lim r W rfl hW hS hci hli hri)
      have HJ1 := Lib.hid (show ∀ W, RunS W v zs → Sl (Flat ints) 1 W u cs → _ from fun W hW hS => spec_VoidCode zs (zs.map Run.k) v cs u lim r W rfl hW hS hci hli hri)
      have HI2 := Lib.hid (show ∀ x W, I64 x → RunS W v zs → Sl (Flat ints) 1 W u cs → _ from fun x W hx hW hS => impl_StatusOf zs (zs.map Run.k) v cs u lim x W rfl hW hS hci hli hx)
      have HF := Lib.hid (show ∀ x ∈ voidV (zs.map Run.k) cs lim r, (1 ≤ x ∧ x ≤ 99) ∧ stoV (zs.map Run.k) cs lim x = (1, true) from fun x hx => void_ask hx)
      have hvl := voidV_len (zs.map Run.k) cs lim r
      generalize askV (zs.map Run.k) cs lim r = ok at HI1 HJ1
      generalize voidV (zs.map Run.k) cs lim r = vo at HI1 HJ1 HF hvl
      clear hr hs hcx hlim hb hci hli hri hrr hzl
      go_wp2_with fail
      refine (HI1.out _ HR.out HS.out).mono ?_
      rintro e w' ⟨r1, rfl, row1, hb⟩
      replace HB := Lib.hid (step_ HB.out (Nat.le_refl _) hb)
      replace HR := Lib.hid (HR.out.below hb)
      replace HS := Lib.hid (Sl.below (Flat.keeps _) HS.out hb)
      have HA1 := Lib.hid row1
      clear row1 hb HI1
      go_wp2_with fail
      refine (HJ1.out _ HR.out HS.out).mono ?_
      rintro e w' ⟨r2, rfl, row2, hb⟩
      replace HB := Lib.hid (step_ HB.out (Nat.le_refl _) hb)
      replace HR := Lib.hid (HR.out.below hb)
      replace HS := Lib.hid (Sl.below (Flat.keeps _) HS.out hb)
      replace HA1 := Lib.hid (HA1.out.below hb)
      have HA2 := Lib.hid row2
      clear row2 hb HJ1
      go_wp2_with fail
      refine (vInts_refl vo r1 r2 _ (Sl.of_flat HA1.out) (Sl.of_flat HA2.out)).mono ?_
      rintro e w' ⟨rfl, hb⟩
      replace HB := Lib.hid (step_ HB.out (Nat.le_refl _) hb)
      replace HR := Lib.hid (HR.out.below hb)
      replace HS := Lib.hid (Sl.below (Flat.keeps _) HS.out hb)
      replace HA1 := Lib.hid (HA1.out.below hb)
      clear hb HA2
      obtain ⟨A1, d1, rfl, -, -⟩ := HA1.out.parts
      simp only [List.length_map] at HA1 ⊢
      go_upto_block 0 with fail
      go_cut [23] (fun _ wx => Hid (Below w'.heap.size w' wx))
      case first =>
        go_wp2_with fail
        go_loopw [23] (fun iv wr => ∃ i : Nat, i ≤ vo.length ∧ iv = .int .i64 i ∧ Hid (Below w'.heap.size w' wr))
          (fun iv _ => vo.length - (intOf iv).toNat)
        case atStart => exact ⟨0, Nat.zero_le _, rfl, Below.refl _ _⟩
        case round =>
          obtain ⟨i, hil, rfl, HBL⟩ := hrel
          by_cases hi : i < vo.length
          · have hii : (i : Int) < (vo.length : Int) := by omega
            have hi0 : (0 : Int) ≤ (i : Int) := by omega
            have HAW := Lib.hid (HA1.out.below HBL.out)
            obtain ⟨g, rfl, hcell⟩ := row_at HAW.out hi
            obtain ⟨q1, q2⟩ := HF.out _ (List.getElem_mem hi)
            generalize vo[i] = x at *
            have HCA := Lib.hid (show ∀ W, Below w'.heap.size w' W → _ from fun W hW => HI2.out x W (near_i64 (by omega)) (HR.out.below hW) (Sl.below (Flat.keeps _) HS.out hW))
            rw [q2] at HCA
            clear q1 q2
            go_wp2_with fail
            refine (HCA.out _ HBL.out).mono ?_
            rintro e w2 ⟨rfl, hb2⟩
            have HB2 := Lib.hid (step_ HBL.out (Nat.le_refl _) hb2)
            clear hb2 hcell
            go_wp2_with fail
            go_roundw
            case rel => exact ⟨i + 1, by omega, by go_num, HB2.out⟩
            case measure => simp [intOf]; omega
          · have hii : ¬ (i : Int) < (vo.length : Int) := by omega
            go_wp2_with fail
            go_meet
            exact HBL
      case rest =>
        replace HB := Lib.hid (step_ HB.out (Nat.le_refl _) hcut.out)
        clear hcut HA1 HR HS HI2 HF hvl
        go_wp2_with fail
        refine (draw_BestLegs v0 m _ (HC.out.below HB.out)).mono ?_
        rintro e w' ⟨v, zs, u, cs, lim, rfl, hr, hzl, hs, hcx, hlim, hb⟩
        replace HB := Lib.hid (step_ HB.out (Nat.le_refl _) hb)
        have hci := codes_i64 hcx
        have hli : I64 lim := near_i64 (by omega)
        have HR := Lib.hid hr
        have HS := Lib.hid hs
        have HI1 := Lib.hid (show ∀ W, RunS W v zs → Sl (Flat ints) 1 W u cs → _ from fun W hW hS => impl_BestLegs zs (zs.map Run.k) v cs u lim W rfl hW hS hci hli)
        have HJ1 := Lib.hid (show ∀ W, RunS W v zs → Sl (Flat ints) 1 W u cs → _ from fun W hW hS => spec_BestLegs zs (zs.map Run.k) v cs u lim W rfl hW hS hci hli)
        have HI2 := Lib.hid (show ∀ x W, I64 x → RunS W v zs → Sl (Flat ints) 1 W u cs → _ from fun x W hx hW hS => impl_StatusOf zs (zs.map Run.k) v cs u lim x W rfl hW hS hci hli hx)
        obtain ⟨lg, hlg⟩ : ∃ lg, lg = blV (zs.map Run.k) cs lim := ⟨_, rfl⟩
        have hfa : blB (zs.map Run.k) cs lim = true → codesOk cs = true ∧ ∀ k (hk : k < zs.length), (1 ≤ zs[k].runner ∧ zs[k].runner ≤ 99) ∧ stoV (zs.map Run.k) cs lim zs[k].runner = (stV zs[k].k cs lim, true) ∧ (stV zs[k].k cs lim = 0 → cardOk zs[k].card.k = true ∧ (∀ i (_ : i < cs.length), ∃ a : Nat, a < zs[k].k.card.punches.length ∧ (foundL zs[k].k.card.punches cs)[i]? = some (a : Int)) ∧ (∀ i, i < cs.length → 0 ≤ timeI zs[k].k cs i ∧ timeI zs[k].k cs i ≤ 36000) ∧ lg.length = cs.length ∧ (0 < cs.length → lg.sum ≤ timeI zs[k].k cs (cs.length - 1) - zs[k].k.card.start) ∧ ∀ x ∈ lg, -100000 ≤ x ∧ x ≤ 100000) := by
          intro h
          have hask : askR (zs.map Run.k) cs lim = true := by simp only [blB, Bool.and_eq_true] at h; exact h.1
          refine ⟨(askR_parts hask).2.1, fun k hk => ?_⟩
          have hm : zs[k].k ∈ zs.map Run.k := List.mem_map_of_mem (f := Run.k) (List.getElem_mem hk)
          refine ⟨runner_small (ask_good hask) hm, (sto_of hask hm).1, fun h0 => ?_⟩
          have ho := goodRs_ok (ask_good hask) _ (List.getElem_mem hk)
          obtain ⟨l1, l2, l3⟩ := legs_ask h hm h0
          rw [← hlg] at l1 l2 l3
          exact ⟨ok_card h0 ho, ok_found h0, fun i hi => timeI_small h0 ho hi, l1, l2, l3⟩
        have HF := Lib.hid hfa
        rw [← hlg] at HI1 HJ1
        generalize blB (zs.map Run.k) cs lim = ok at HI1 HJ1 HF
        clear hfa hlg hr hs hcx hlim hb hci hli
        go_wp2_with fail
        refine (HI1.out _ HR.out HS.out).mono ?_
        rintro e w' ⟨r1, rfl, row1, hb⟩
        replace HB := Lib.hid (step_ HB.out (Nat.le_refl _) hb)
        replace HR := Lib.hid (HR.out.below hb)
        replace HS := Lib.hid (Sl.below (Flat.keeps _) HS.out hb)
        have HA1 := Lib.hid row1
        clear row1 hb HI1
        go_wp2_with fail
        refine (HJ1.out _ HR.out HS.out).mono ?_
        rintro e w' ⟨r2, rfl, row2, hb⟩
        replace HB := Lib.hid (step_ HB.out (Nat.le_refl _) hb)
        replace HR := Lib.hid (HR.out.below hb)
        replace HS := Lib.hid (Sl.below (Flat.keeps _) HS.out hb)
        replace HA1 := Lib.hid (HA1.out.below hb)
        have HA2 := Lib.hid row2
        clear row2 hb HJ1
        go_wp2_with fail
        refine (vInts_refl lg r1 r2 _ (Sl.of_flat HA1.out) (Sl.of_flat HA2.out)).mono ?_
        rintro e w' ⟨rfl, hb⟩
        replace HB := Lib.hid (step_ HB.out (Nat.le_refl _) hb)
        replace HR := Lib.hid (HR.out.below hb)
        replace HS := Lib.hid (Sl.below (Flat.keeps _) HS.out hb)
        replace HA1 := Lib.hid (HA1.out.below hb)
        clear hb HA2
        obtain ⟨A1, d1, rfl, -, -⟩ := HA1.out.parts
        obtain ⟨AV, dv, rfl, -, -, -⟩ := HR.out.1.open_
        simp only [List.length_map] at HA1 ⊢
        cases ok with
        | false =>
          go_wp2_with fail
          go_ret
          exact ⟨rfl, HB.out⟩
        | true =>
          obtain ⟨hco, hf⟩ := HF.out rfl
          have HF2 := Lib.hid hf
          have HCO := Lib.hid hco
          clear HF hf hco
          go_upto_block 2 with fail
          go_wp2_with fail
          go_loopw [33] (fun iv wr => ∃ i : Nat, i ≤ zs.length ∧ iv = .int .i64 i ∧ Hid (Below w'.heap.size w' wr))
            (fun iv _ => zs.length - (intOf iv).toNat)
          case atStart => exact ⟨0, Nat.zero_le _, rfl, Below.refl _ _⟩
          case round =>
            obtain ⟨i, hil, rfl, HBL⟩ := hrel
            by_cases hi : i < zs.length
            · have hii : (i : Int) < (zs.length : Int) := by omega
              have hi0 : (0 : Int) ≤ (i : Int) := by omega
              have hwi : IntKind.i64.wrap ((i : Int) + 1) = (i : Int) + 1 := by rw [IntKind.wrap_i64]; omega
              obtain ⟨A', c', he, -, -, hk⟩ := (HR.out.below HBL.out).1.open_
              simp only [Value.slice.injEq] at he
              obtain ⟨rfl, -, rfl⟩ := he
              obtain ⟨b, off, rfl, hat⟩ := flat_at hk (by omega)
              have hrg := hat i hi
              have hin := HR.out.2 _ (List.getElem_mem hi)
              obtain ⟨q1, q2, q3⟩ := HF2.out i hi
              obtain ⟨x, hx⟩ : ∃ x, zs[i] = x := ⟨_, rfl⟩
              rw [hx] at hrg hin q1 q2 q3
              have HQ3 := Lib.hid q3
              have HIN := Lib.hid hin
              have HRG := Lib.hid hrg
              have hrc := (Run.cells hrg).1
              have HCA := Lib.hid (show ∀ W, Below w'.heap.size w' W → _ from fun W hW => HI2.out x.runner W (near_i64 (by omega)) (HR.out.below hW) (Sl.below (Flat.keeps _) HS.out hW))
              rw [q2] at HCA
              obtain ⟨st, hst⟩ : ∃ st, stV x.k cs lim = st := ⟨_, rfl⟩
              rw [hst] at HCA HQ3
              clear hat hk hx hrg hin q1 q2 q3 hst
              go_wp2_with fail
              refine (HCA.out _ HBL.out).mono ?_
              rintro e w2 ⟨rfl, hb2⟩
              have HB2 := Lib.hid (step_ HBL.out (Nat.le_refl _) hb2)
              have hrg2 := rangeAt_below HRG.out hb2
              have hcd := Run.cardRange hrg2
              clear hb2 hrc hrg2 HRG
              by_cases hs0 : st = 0
              · obtain ⟨q4, q5, q6, q7, q8, q9⟩ := HQ3.out hs0
                have h00 : (st != 0) = false := by simp [hs0]
                have HSP := Lib.hid (impl_SplitTimes_ok x.card x.k cs u w2 rfl (HIN.out.below HB2.out) (HS.out.below (Flat.keeps _) HB2.out) q4 HCO.out q5 q6)
                have HQ7 := Lib.hid q7
                have HQ8 := Lib.hid q8
                have HQ9 := Lib.hid q9
                have hl12 := codesOk_len HCO.out
                clear q4 q5 q6 q7 q8 q9 hs0 HQ3
                go_wp2_with ((with_reducible refine at_load_ 51 ?_); refine Card.loadImpl rfl _ rfl b (off + i * 7 + 3) rfl x.card hcd ?_)
                refine HSP.out.mono ?_
                rintro e w3 ⟨r5, rfl, row5, hb3⟩
                have HB3 := Lib.hid (step_ HB2.out (Nat.le_refl _) hb3)
                obtain ⟨A5, d5, rfl, -, -⟩ := row5.parts
                have hsl : (spL x.k cs).length = cs.length := by simp [spL]
                simp only [List.length_map, hsl] at row5 ⊢
                have HSU := Lib.hid (show ∀ t : After w3, Calls Try.prog 44 #[.slice A1 lg.length d1] t.w' fun e w' => e = .returned (.int .i64 lg.sum) ∧ Below t.w'.heap.size t.w' w' from fun t => vSum_any2 lg _ t.w' (Sl.of_flat ((HA1.out.below HB3.out).below t.hb)) HQ9.out (by rw [HQ7.out]; omega))
                have hne : ((cs.length : Int) != (lg.length : Int)) = false := by simp [HQ7.out]
                have HR5 := Lib.hid row5
                clear hb3 row5 HSP hcd
                generalize lg.sum = sm at HSU HQ8
                by_cases hn : 0 < cs.length
                · have hnn : (0 : Int) < (cs.length : Int) := by omega
                  have hwl : IntKind.i64.wrap ((cs.length : Int) - 1) = ((cs.length - 1 : Nat) : Int) := by rw [IntKind.wrap_i64]; omega
                  obtain ⟨g5, rfl, hcell⟩ := row_at HR5.out (i := cs.length - 1) (by rw [hsl]; omega)
                  have hsv : (spL x.k cs)[cs.length - 1]'(by rw [hsl]; omega) = timeI x.k cs (cs.length - 1) - x.k.card.start := by simp [spL]
                  rw [hsv] at hcell
                  have hle := HQ8.out hn
                  generalize timeI x.k cs (cs.length - 1) - x.k.card.start = tl at hcell hle
                  have hlt : ¬ tl < sm := by omega
                  have hj1 : ((cs.length - 1 : Nat) : Int) < (cs.length : Int) := by omega
                  have hj0 : (0 : Int) ≤ ((cs.length - 1 : Nat) : Int) := by omega
                  have hd := After.keep hcell
                  clear hcell hsv hsl hle
                  go_wp2_with fail
                  refine region_after (by kernel_rfl) (by kernel_rfl) ?_
                  repeat (any_goals (first | go_big_quiet_step ((go_at_call 44; with_reducible exact Calls.after (v := .int .i64 sm) _ (HSU.out _)))  | quiet_step ((go_at_call 44; with_reducible exact Calls.after (v := .int .i64 sm) _ (HSU.out _))) | (refine wpQuiet_step (fun K hK => ?_); go_simp; split <;> (refine hK _ ?_; clear hK K))))
                  all_goals (refine wpQuiet_nil ?_; intro s)
                  go_wp2_with fail
                  go_roundw
                  case rel => exact ⟨i + 1, by omega, by go_num, step_ HB3.out (Nat.le_refl _) s.hb⟩
                  case measure => simp [intOf]; omega
                · have hnn : ¬ (0 : Int) < (cs.length : Int) := by omega
                  clear hsl
                  go_wp2_with fail
                  refine region_after (by kernel_rfl) (by kernel_rfl) ?_
                  repeat (any_goals (first | go_big_quiet_step ((go_at_call 44; with_reducible exact Calls.after (v := .int .i64 sm) _ (HSU.out _)))  | quiet_step ((go_at_call 44; with_reducible exact Calls.after (v := .int .i64 sm) _ (HSU.out _))) | (refine wpQuiet_step (fun K hK => ?_); go_simp; split <;> (refine hK _ ?_; clear hK K))))
                  all_goals (refine wpQuiet_nil ?_; intro s)
                  go_wp2_with fail
                  go_roundw
                  case rel => exact ⟨i + 1, by omega, by go_num, step_ HB3.out (Nat.le_refl _) s.hb⟩
                  case measure => simp [intOf]; omega
              · have h00 : (st != 0) = true := by simp [hs0]
                clear hs0
                go_wp2_with fail
                go_roundw
                case rel => exact ⟨i + 1, by omega, by go_num, HB2.out⟩
                case measure => simp [intOf]; omega
            · have hii : ¬ (i : Int) < (zs.length : Int) := by omega
              go_wp2_with fail
              go_ret
              exact ⟨rfl, step_ HB.out (Nat.le_refl _) HBL.out⟩
end Go.Proofs.Ytojpklpfnmjikaa
