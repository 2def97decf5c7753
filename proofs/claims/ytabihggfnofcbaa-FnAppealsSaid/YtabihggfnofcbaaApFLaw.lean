/- The walk of the law FnAppeals: it returns true. No condition. -/
import Derived.Test.YtabihggfnofcbaaPrLaw
import Derived.Test.YtabihggfnofcbaaDrPu
namespace Go.Proofs.Ytabihggfnofcbaa
open Go Go.RowKit

theorem draw_IsProtest' (v0 : Value) (m : Nat) (w : World) (h : CodeS w v0 m) :
    Calls Try.prog 59 #[v0] w fun e w' => ∃ b0 b1 b2 b3 b4 b5 : Int, e = .returned (.agg #[.int .i64 b0, .int .i64 b1, .int .i64 b2, .int .i64 b3, .int .i64 b4, .int .i64 b5]) ∧ Below w.heap.size w w' := by
  refine (draw_IsProtest v0 m w h).mono ?_
  rintro e w' ⟨p, rfl, hp, hb⟩
  exact ⟨p.id, p.against, p.by_, p.made, p.state, p.votes, rfl, hb⟩
set_option maxRecDepth 100000 in
set_option maxHeartbeats 8000000 in
theorem fnAppeals_walk (v0 : Value) (m : Nat) (w : World) (h0 : CodeS w v0 m) :
    Calls Try.prog 15 #[v0] w fun e w' => e = .returned (.bool true) ∧ Below w.heap.size w w' := by
  obtain ⟨q, hq⟩ : ∃ q, q = decide (65536 < m) := ⟨_, rfl⟩
  have HC := Lib.hid h0
  have HV := Lib.hid (rBig_any v0 m q w h0 hq)
  have HB := Lib.hid (Below.refl w.heap.size w)
  clear hq h0
  cases q with
  | true =>
    go_enter Try.func15, Try.ntmps15
    go_wp2_with fail
    refine (HV.out).mono ?_
    rintro e w' ⟨rfl, hb⟩
    replace HB := Lib.hid (step_ HB.out (Nat.le_refl _) hb)
    go_wp2_with fail
    go_ret
    exact ⟨rfl, HB.out⟩
  | false =>
    go_enter Try.func15, Try.ntmps15
    go_wp2_with fail
    refine (HV.out).mono ?_
    rintro e w' ⟨rfl, hb⟩
    replace HB := Lib.hid (step_ HB.out (Nat.le_refl _) hb)
    clear hb HV
    go_wp2_with fail
    refine (draw_AppealProtest v0 m _ (HC.out.below HB.out)).mono ?_
    rintro e w' ⟨v, x, id, t, rfl, hid, ht, hs, hl, hd, hb⟩
    replace HB := Lib.hid (step_ HB.out (Nat.le_refl _) hb)
    have HS := Lib.hid hs
    have HI := Lib.hid (show ∀ W, Sl (Flat Prot.lst) 6 W v x → _ from fun W hW => impl_AppealProtest x v id t W hW (drawn_ok hd) (near_i64 hid) (near_i64 ht))
    have HJ := Lib.hid (show ∀ W, Sl (Flat Prot.lst) 6 W v x → _ from fun W hW => spec_AppealProtest x v id t W hW (drawn_ok hd) (near_i64 hid) (near_i64 ht))
    have HK := Lib.hid (show ∀ W, Sl (Flat Prot.lst) 6 W v x → _ from fun W hW => impl_CanPublish x v t W hW (drawn_ok hd) (near_i64 ht))
    have HF := Lib.hid (@appeal_facts x id t)
    generalize wOk x id (cAppeal t) fAppeal = ok at HI HJ HF
    generalize wOut x id (cAppeal t) fAppeal = out at HI HJ HF
    generalize canM x t = ca at HK HF
    generalize okM x t = oc at HK HF
    clear hs hd hb hid ht
    go_wp2_with fail
    refine (HI.out _ HS.out).mono ?_
    rintro e w' ⟨o1, rfl, row1, hb⟩
    replace HB := Lib.hid (step_ HB.out (Nat.le_refl _) hb)
    replace HS := Lib.hid (Sl.below (Flat.keeps _) HS.out hb)
    have HO := Lib.hid (sl_prots row1)
    clear row1 hb
    go_wp2_with fail
    refine (HJ.out _ HS.out).mono ?_
    rintro e w' ⟨o2, rfl, row2, hb⟩
    replace HB := Lib.hid (step_ HB.out (Nat.le_refl _) hb)
    replace HS := Lib.hid (Sl.below (Flat.keeps _) HS.out hb)
    have HE := Lib.hid (rProtests_refl _ o1 o2 _ (Sl.below (Flat.keeps _) HO.out hb) (sl_prots row2))
    replace HO := Lib.hid (Sl.below (Flat.keeps _) HO.out hb)
    clear row2 hb HI HJ
    go_wp2_with fail
    refine (HE.out).mono ?_
    rintro e w' ⟨rfl, hb⟩
    replace HB := Lib.hid (step_ HB.out (Nat.le_refl _) hb)
    replace HS := Lib.hid (Sl.below (Flat.keeps _) HS.out hb)
    replace HO := Lib.hid (Sl.below (Flat.keeps _) HO.out hb)
    clear hb HE
    go_upto_if 70 with fail
    go_cut [] (fun wx => Hid (Below w.heap.size w wx))
    case first =>
      cases ok with
      | false =>
        go_wp2_with fail
        go_meet
        exact HB
      | true =>
        obtain ⟨g0, p0, rfl, rfl⟩ := HF.out rfl
        have HP := Lib.hid (impl_PendingProtests out _ _ HO.out (good_ok g0))
        rw [g0] at HP
        have HP0 := Lib.hid p0
        clear g0 p0 HF
        go_wp2_with fail
        refine (HP.out).mono ?_
        rintro e w' ⟨r1, rfl, row1, hb⟩
        replace HB := Lib.hid (step_ HB.out (Nat.le_refl _) hb)
        replace HS := Lib.hid (Sl.below (Flat.keeps _) HS.out hb)
        have HR1 := Lib.hid (Sl.of_flat row1)
        clear row1 hb HP HO
        go_wp2_with fail
        refine (HK.out _ HS.out).mono ?_
        rintro e w' ⟨rfl, hb⟩
        replace HB := Lib.hid (step_ HB.out (Nat.le_refl _) hb)
        replace HR1 := Lib.hid (Sl.below (Flat.keeps _) HR1.out hb)
        clear hb HK HS
        have HQ1 := Lib.hid (rHas_any (pendM out) id r1 _ HR1.out)
        rw [decide_eq_true HP0.out] at HQ1
        go_wp2_with fail
        refine (HQ1.out).mono ?_
        rintro e w' ⟨rfl, hb⟩
        replace HB := Lib.hid (step_ HB.out (Nat.le_refl _) hb)
        clear hb HQ1 HR1
        go_wp2_with fail
        go_meet
        exact HB
    case rest =>
      clear HO HF HB HK HS
      have HB := hcut
      clear hcut
      go_wp2_with fail
      refine (draw_CanPublish v0 m _ (HC.out.below HB.out)).mono ?_
      rintro e w' ⟨v, x, t, rfl, ht, hs, hl, hd, hb⟩
      replace HB := Lib.hid (step_ HB.out (Nat.le_refl _) hb)
      have HS := Lib.hid hs
      have HI := Lib.hid (show ∀ W, Sl (Flat Prot.lst) 6 W v x → _ from fun W hW => impl_CanPublish x v t W hW (drawn_ok hd) (near_i64 ht))
      have HJ := Lib.hid (show ∀ W, Sl (Flat Prot.lst) 6 W v x → _ from fun W hW => spec_CanPublish x v t W hW (drawn_ok hd) (near_i64 ht))
      have HPI := Lib.hid (show ∀ W, Sl (Flat Prot.lst) 6 W v x → _ from fun W hW => impl_PendingProtests x v W hW (drawn_ok hd))
      have HPJ := Lib.hid (show ∀ W, Sl (Flat Prot.lst) 6 W v x → _ from fun W hW => spec_PendingProtests x v W hW (drawn_ok hd))
      have HF := Lib.hid (show canM x t = true → (pendM x).length = 0 from fun h => by rw [can_none h]; rfl)
      generalize canM x t = ca at HI HJ HF
      generalize okM x t = oc at HI HJ
      generalize pendM x = pl at HPI HPJ HF
      generalize good x = go at HPI HPJ
      clear hs hd hb ht
      go_wp2_with fail
      refine (HI.out _ HS.out).mono ?_
      rintro e w' ⟨rfl, hb⟩
      replace HB := Lib.hid (step_ HB.out (Nat.le_refl _) hb)
      replace HS := Lib.hid (Sl.below (Flat.keeps _) HS.out hb)
      clear hb
      go_wp2_with fail
      refine (HJ.out _ HS.out).mono ?_
      rintro e w' ⟨rfl, hb⟩
      replace HB := Lib.hid (step_ HB.out (Nat.le_refl _) hb)
      replace HS := Lib.hid (Sl.below (Flat.keeps _) HS.out hb)
      clear hb HI HJ
      go_wp2_with fail
      refine (HPI.out _ HS.out).mono ?_
      rintro e w' ⟨r1, rfl, row1, hb⟩
      replace HB := Lib.hid (step_ HB.out (Nat.le_refl _) hb)
      replace HS := Lib.hid (Sl.below (Flat.keeps _) HS.out hb)
      have HR1 := Lib.hid (Sl.of_flat row1)
      clear hb row1 HPI
      go_wp2_with fail
      refine (HPJ.out _ HS.out).mono ?_
      rintro e w' ⟨r2, rfl, row2, hb⟩
      replace HB := Lib.hid (step_ HB.out (Nat.le_refl _) hb)
      replace HR1 := Lib.hid (Sl.below (Flat.keeps _) HR1.out hb)
      have HE := Lib.hid (rInts_refl pl r1 r2 _ HR1.out (Sl.of_flat row2))
      clear hb row2 HPJ HS
      go_upto_region 20 with fail
      go_cut [148] (fun b wx => b = .bool false ∧ Hid (Below w.heap.size w wx))
      case first =>
        obtain ⟨A1, c1, rfl, hc1, hm1, -⟩ := HR1.out.open_
        cases ca with
        | false =>
          go_wp2_with fail
          refine (HE.out).mono ?_
          rintro e w' ⟨rfl, hb⟩
          replace HB := Lib.hid (step_ HB.out (Nat.le_refl _) hb)
          go_wp2_with fail
          go_meet
          exact ⟨rfl, HB⟩
        | true =>
          obtain rfl := List.eq_nil_of_length_eq_zero (HF.out rfl)
          clear HF
          go_wp2_with fail
          refine (HE.out).mono ?_
          rintro e w' ⟨rfl, hb⟩
          replace HB := Lib.hid (step_ HB.out (Nat.le_refl _) hb)
          go_wp2_with fail
          go_meet
          exact ⟨rfl, HB⟩
      case rest =>
        clear HB HE HF HR1
        obtain ⟨rfl, HB⟩ := hcut
        go_wp2_with fail
        refine (draw_ProtestsAbout v0 m _ (HC.out.below HB.out)).mono ?_
        rintro e w' ⟨v, x, r, rfl, hr, hs, hl, hd, hb⟩
        replace HB := Lib.hid (step_ HB.out (Nat.le_refl _) hb)
        have HS := Lib.hid hs
        have HI := Lib.hid (show ∀ W, Sl (Flat Prot.lst) 6 W v x → _ from fun W hW => impl_ProtestsAbout x v r W hW (drawn_ok hd) (near_i64 hr))
        have HJ := Lib.hid (show ∀ W, Sl (Flat Prot.lst) 6 W v x → _ from fun W hW => spec_ProtestsAbout x v r W hW (drawn_ok hd) (near_i64 hr))
        have HF := Lib.hid (show ∀ i (h : i < (aboutM x r).length), (aboutM x r)[i] ∉ byM x r ∧ I64 (aboutM x r)[i] from fun i h => ⟨about_by (List.getElem_mem h), about_i64 (List.getElem_mem h)⟩)
        have HAL := Lib.hid (aboutM_len x r)
        generalize okA x r = oa at HI HJ
        generalize aboutM x r = al at HI HJ HF HAL
        generalize byM x r = bl at HI HJ HF
        clear hs hd hb hr
        go_wp2_with fail
        refine (HI.out _ HS.out).mono ?_
        rintro e w' ⟨r1, r2, rfl, row1, row2, _, hb⟩
        replace HB := Lib.hid (step_ HB.out (Nat.le_refl _) hb)
        replace HS := Lib.hid (Sl.below (Flat.keeps _) HS.out hb)
        have HR1 := Lib.hid (Sl.of_flat row1)
        have HR2 := Lib.hid (Sl.of_flat row2)
        clear hb row1 row2 HI
        go_wp2_with fail
        refine (HJ.out _ HS.out).mono ?_
        rintro e w' ⟨r3, r4, rfl, row3, row4, _, hb⟩
        replace HB := Lib.hid (step_ HB.out (Nat.le_refl _) hb)
        replace HR1 := Lib.hid (Sl.below (Flat.keeps _) HR1.out hb)
        replace HR2 := Lib.hid (Sl.below (Flat.keeps _) HR2.out hb)
        have HE1 := Lib.hid (rInts_refl al r1 r3 _ HR1.out (Sl.of_flat row3))
        have HR4 := Lib.hid (Sl.of_flat row4)
        clear hb row3 row4 HJ HS
        go_wp2_with fail
        refine (HE1.out).mono ?_
        rintro e w' ⟨rfl, hb⟩
        replace HB := Lib.hid (step_ HB.out (Nat.le_refl _) hb)
        replace HR1 := Lib.hid (Sl.below (Flat.keeps _) HR1.out hb)
        replace HR2 := Lib.hid (Sl.below (Flat.keeps _) HR2.out hb)
        replace HR4 := Lib.hid (Sl.below (Flat.keeps _) HR4.out hb)
        have HE2 := Lib.hid (rInts_refl bl r2 r4 _ HR2.out HR4.out)
        clear hb HE1 HR4
        go_wp2_with fail
        refine (HE2.out).mono ?_
        rintro e w' ⟨rfl, hb⟩
        replace HB := Lib.hid (step_ HB.out (Nat.le_refl _) hb)
        replace HR1 := Lib.hid (Sl.below (Flat.keeps _) HR1.out hb)
        replace HR2 := Lib.hid (Sl.below (Flat.keeps _) HR2.out hb)
        clear hb HE2
        obtain ⟨A1, c1, rfl, hc1, hm1, hk1⟩ := HR1.out.open_
        have HK1 := Lib.hid hk1
        have hal := HAL.out
        clear HR1 hk1
        generalize w' = W0 at *
        go_wp2_with fail
        go_loopw [32] (fun i wr => ∃ k : Nat, k ≤ al.length ∧ i = .int .i64 k ∧ Below w.heap.size w wr ∧ Below W0.heap.size W0 wr)
          (fun i _ => al.length - (intOf i).toNat)
        case atStart => exact ⟨0, Nat.zero_le _, rfl, HB.out, Below.refl _ _⟩
        case round =>
          clear HB
          obtain ⟨k, hkl, rfl, hb0, hb'⟩ := hrel
          have HB := Lib.hid hb0
          by_cases hlt : k < al.length
          · obtain ⟨b, off, rfl, hat⟩ := flat_at HK1.out (by omega)
            have hcw := After.keep (int_at (hat k hlt)) ⟨_, hb'⟩
            rw [Nat.mul_one] at hcw
            obtain ⟨hx1, hx2⟩ := HF.out k hlt
            generalize al[k] = y at hcw hx1 hx2
            have HQ := Lib.hid (rHas_any bl y r2 wr (Sl.below (Flat.keeps _) HR2.out hb'))
            rw [decide_eq_false hx1] at HQ
            clear hat hx1
            go_wp2_with fail
            refine (HQ.out).mono ?_
            rintro e w' ⟨rfl, hb⟩
            replace HB := Lib.hid (step_ HB.out (Nat.le_refl _) hb)
            go_wp2_with fail
            go_roundw
            case rel => exact ⟨k + 1, by omega, by go_num, HB.out, step_ hb' (Nat.le_refl _) hb⟩
            case measure => simp [intOf]; omega
          · clear HK1 HF HR2 hb' hb0
            go_wp2_with fail
            refine (draw_UpheldRunners v0 m _ (HC.out.below HB.out)).mono ?_
            rintro e w' ⟨v, x, rfl, hs, hl, hd, hb⟩
            replace HB := Lib.hid (step_ HB.out (Nat.le_refl _) hb)
            have HS := Lib.hid hs
            have HI := Lib.hid (show ∀ W, Sl (Flat Prot.lst) 6 W v x → _ from fun W hW => impl_UpheldRunners x v W hW (drawn_ok hd))
            have HJ := Lib.hid (show ∀ W, Sl (Flat Prot.lst) 6 W v x → _ from fun W hW => spec_UpheldRunners x v W hW (drawn_ok hd))
            generalize good x = go at HI HJ
            generalize upM x = ul at HI HJ
            clear hs hd hb
            go_wp2_with fail
            refine (HI.out _ HS.out).mono ?_
            rintro e w' ⟨r5, rfl, row5, hb⟩
            replace HB := Lib.hid (step_ HB.out (Nat.le_refl _) hb)
            replace HS := Lib.hid (Sl.below (Flat.keeps _) HS.out hb)
            have HR5 := Lib.hid (Sl.of_flat row5)
            clear hb row5 HI
            go_wp2_with fail
            refine (HJ.out _ HS.out).mono ?_
            rintro e w' ⟨r6, rfl, row6, hb⟩
            replace HB := Lib.hid (step_ HB.out (Nat.le_refl _) hb)
            replace HR5 := Lib.hid (Sl.below (Flat.keeps _) HR5.out hb)
            have HR6 := Lib.hid (Sl.of_flat row6)
            clear hb row6 HJ HS
            go_wp2_with fail
            refine (draw_IsProtest' v0 m _ (HC.out.below HB.out)).mono ?_
            rintro e w' ⟨b0, b1, b2, b3, b4, b5, rfl, hb⟩
            replace HB := Lib.hid (step_ HB.out (Nat.le_refl _) hb)
            replace HR5 := Lib.hid (Sl.below (Flat.keeps _) HR5.out hb)
            replace HR6 := Lib.hid (Sl.below (Flat.keeps _) HR6.out hb)
            clear hb
            have hb9 : Below w'.heap.size w' (w'.alloc (.cells #[.int .i64 b0, .int .i64 b1, .int .i64 b2, .int .i64 b3, .int .i64 b4, .int .i64 b5] 25)) := below_alloc (Below.refl _ _) _
            have hrg := Prot.rangeNew w' ⟨b0, b1, b2, b3, b4, b5⟩ 25
            replace HB := Lib.hid (step_ HB.out (Nat.le_refl _) hb9)
            have HE := Lib.hid (And.intro (Sl.below (Flat.keeps _) HR5.out hb9) (Sl.below (Flat.keeps _) HR6.out hb9))
            go_upto_region 36 with fail
            have HBX := Lib.hid hb9
            clear hb9 HR5 HR6
            generalize w'.alloc (.cells #[.int .i64 b0, .int .i64 b1, .int .i64 b2, .int .i64 b3, .int .i64 b4, .int .i64 b5] 25) = W at *
            generalize w'.heap.size = gp at *
            obtain ⟨so, hso⟩ : ∃ so, specOne ⟨b0, b1, b2, b3, b4, b5⟩ = so := ⟨_, rfl⟩
            have HI1 := Lib.hid (fun s : After W => show Calls Try.prog 18 #[.agg #[.int .i64 b0, .int .i64 b1, .int .i64 b2, .int .i64 b3, .int .i64 b4, .int .i64 b5]] s.w' fun e w' => e = .returned (.bool so) ∧ Below s.w'.heap.size s.w' w' from hso ▸ isProtest_any ⟨b0, b1, b2, b3, b4, b5⟩ s.w')
            have HI2 := Lib.hid (fun s : After W => show Calls Try.prog 16 #[.agg #[.int .i64 b0, .int .i64 b1, .int .i64 b2, .int .i64 b3, .int .i64 b4, .int .i64 b5]] s.w' fun e w' => e = .returned (.bool so) ∧ Below s.w'.heap.size s.w' w' from hso ▸ specIsProtest_any ⟨b0, b1, b2, b3, b4, b5⟩ s.w')
            have HVI := Lib.hid (fun s : After W => rInts_refl ul r5 r6 s.w' (Sl.below (Flat.keeps _) HE.out.1 s.hb) (Sl.below (Flat.keeps _) HE.out.2 s.hb))
            clear hso HE
            cases go <;> (
              go_wp2
              refine region_after (by kernel_rfl) (by kernel_rfl) ?_
              repeat (any_goals (first | go_big_quiet_step ((first | (go_at_call 56; exact Calls.after (v := .bool true) _ (HVI.out _)) | (go_at_call 18; exact Calls.after (v := .bool so) _ (HI1.out _)) | (go_at_call 16; exact Calls.after (v := .bool so) _ (HI2.out _)))) | (refine Prot.qloadImpl rfl _ rfl gp 0 rfl ⟨b0, b1, b2, b3, b4, b5⟩ hrg ?_) | quiet_step ((first | (go_at_call 56; exact Calls.after (v := .bool true) _ (HVI.out _)) | (go_at_call 18; exact Calls.after (v := .bool so) _ (HI1.out _)) | (go_at_call 16; exact Calls.after (v := .bool so) _ (HI2.out _)))) | (refine wpQuiet_step (fun K hK => ?_); go_simp; split <;> (refine hK _ ?_; clear hK K))))
              all_goals (refine wpQuiet_nil ?_; intro s)
              go_wp2
              go_ret
              exact ⟨by cases so <;> rfl, step_ HB.out (Nat.le_refl _) s.hb⟩)
end Go.Proofs.Ytabihggfnofcbaa
