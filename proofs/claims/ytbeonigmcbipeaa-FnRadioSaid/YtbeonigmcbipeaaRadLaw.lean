/- The walk of the law FnRadio: it returns true. No condition. -/
import Derived.Test.YtbeonigmcbipeaaRadQ
import Derived.Test.YtbeonigmcbipeaaByte
import Derived.Test.YtbeonigmcbipeaaDrS
import Derived.Test.YtbeonigmcbipeaaLegS
import Derived.Test.YtbeonigmcbipeaaAddS
import Derived.Test.YtbeonigmcbipeaaAddI
namespace Go.Proofs.Ytbeonigmcbipeaa
open Go Go.RowKit

theorem i64_sm {x : Int} (h : -100000 ≤ x ∧ x ≤ 100000) : I64 x := by unfold I64; omega
set_option maxHeartbeats 1000000 in
theorem vPassings_refl (ps qs : List Pas) (v v' : Value) (w : World) (h : PasS w v ps) (h' : PasS w v' qs) (hkk : ps.map Pas.k = qs.map Pas.k) :
    Calls Try.prog 48 #[v, v'] w fun e w' => e = .returned (.bool true) ∧ Below w.heap.size w w' := by
  have hl : ps.length = qs.length := by have := congrArg List.length hkk; simpa using this
  have HKE := Lib.hid (show ∀ k (h1 : k < ps.length) (h2 : k < qs.length), ps[k].k = qs[k].k by
    intro k h1 h2
    have : (ps.map Pas.k)[k]? = (qs.map Pas.k)[k]? := by rw [hkk]
    simpa [h1, h2] using this)
  have HI := Lib.hid h.2
  have HI' := Lib.hid h'.2
  obtain ⟨A, c, rfl, hc, hm, hk⟩ := h.1.open_
  obtain ⟨A', c', rfl, hc', hm', hk'⟩ := h'.1.open_
  obtain ⟨n, hn⟩ : ∃ n, qs.length = n := ⟨_, rfl⟩
  have HN := Lib.hid hn
  have hpn : ps.length = n := by rw [hl, hn]
  rw [hn] at hc'
  rw [hpn] at hc
  clear h h' hkk hl
  rw [hn, hpn]
  have HP := Lib.hid hpn
  clear hn hpn
  go_enter Try.func48, Try.ntmps48
  go_wp2
  go_loopw [5] (fun i wr => ∃ k : Nat, k ≤ n ∧ i = .int .i64 k ∧ Below w.heap.size w wr)
    (fun i _ => n - (intOf i).toNat)
  case atStart => exact ⟨0, Nat.zero_le _, rfl, Below.refl _ _⟩
  case round =>
    obtain ⟨k, hkl, rfl, hb⟩ := hrel
    by_cases hlt : k < n
    · have hlp : k < ps.length := by rw [HP.out]; exact hlt
      have hlq : k < qs.length := by rw [HN.out]; exact hlt
      obtain ⟨b, off, rfl, hat⟩ := flat_at hk (by omega)
      obtain ⟨b', off', rfl, hat'⟩ := flat_at hk' (by omega)
      have hr := Pas.cellsOld (rangeAt_below (hat k hlp) hb)
      have hr' := Pas.cellsOld (rangeAt_below (hat' k hlq) hb)
      have hke := HKE.out k hlp hlq
      have HC := Lib.hid (fun (s : After wr) => vInts_refl ps[k].k.splits ps[k].sv qs[k].sv s.w' (((HI.out _ (List.getElem_mem hlp)).below hb).below s.hb) (by rw [hke]; exact ((HI'.out _ (List.getElem_mem hlq)).below hb).below s.hb))
      rw [← hke] at hr'
      clear hat hat' hk hk' hke
      go_wp2
      refine region_after (by kernel_rfl) (by kernel_rfl) ?_
      repeat (any_goals (first | go_big_quiet_step (((go_at_call 43; exact Calls.after (v := .bool true) _ (HC.out _))))  | quiet_step (((go_at_call 43; exact Calls.after (v := .bool true) _ (HC.out _)))) | (refine wpQuiet_step (fun K hK => ?_); go_simp; split <;> (refine hK _ ?_; clear hK K))))
      all_goals (refine wpQuiet_nil ?_; intro s)
      go_wp2
      go_roundw
      case rel => exact ⟨k + 1, by omega, by go_num, step_ hb (Nat.le_refl _) s.hb⟩
      case measure => simp [intOf]; omega
    · go_wp2
      go_ret
      exact ⟨rfl, hb⟩
set_option maxRecDepth 100000 in
set_option maxHeartbeats 8000000 in
theorem fnRadio_walk (v0 : Value) (m : Nat) (w : World) (h0 : CodeS w v0 m) :
    Calls Try.prog 13 #[v0] w fun e w' => e = .returned (.bool true) ∧ Below w.heap.size w w' := by
  obtain ⟨q, hq⟩ : ∃ q, q = decide (65536 < m) := ⟨_, rfl⟩
  have HC := Lib.hid h0
  have HV := Lib.hid (vBig_any v0 m q w h0 hq)
  have HB := Lib.hid (Below.refl w.heap.size w)
  clear hq h0
  cases q with
  | true =>
    go_enter Try.func13, Try.ntmps13
    go_wp2_with fail
    refine (HV.out).mono ?_
    rintro e w' ⟨rfl, hb⟩
    replace HB := Lib.hid (step_ HB.out (Nat.le_refl _) hb)
    go_wp2_with fail
    go_ret
    exact ⟨rfl, HB.out⟩
  | false =>
    go_enter Try.func13, Try.ntmps13
    go_wp2_with fail
    refine (HV.out).mono ?_
    rintro e w' ⟨rfl, hb⟩
    replace HB := Lib.hid (step_ HB.out (Nat.le_refl _) hb)
    replace HC := Lib.hid (HC.out.below hb)
    clear hb HV
    go_wp2_with fail
    refine (draw_LeaderAt v0 m _ HC.out).mono ?_
    rintro e w' ⟨v, zs, p, rfl, hs, hl, hd, hp, hb⟩
    replace HB := Lib.hid (step_ HB.out (Nat.le_refl _) hb)
    replace HC := Lib.hid (HC.out.below hb)
    have HP := Lib.hid hs
    obtain ⟨a, s, q, hlv⟩ : ∃ a s q, leadW (zs.map Pas.k) p = (a, s, q) := ⟨_, _, _, rfl⟩
    have HLI := Lib.hid (show ∀ W, PasS W v zs → _ from fun W hW => impl_LeaderAt zs _ v p W rfl hW (i64_sm (by omega)))
    have HLS := Lib.hid (show ∀ W, PasS W v zs → _ from fun W hW => spec_LeaderAt zs _ v p W rfl hW (i64_sm (by omega)))
    have HAI := Lib.hid (show ∀ W, PasS W v zs → _ from fun W hW => impl_ArePassings zs _ v W rfl hW)
    have HAS := Lib.hid (show ∀ W, PasS W v zs → _ from fun W hW => spec_ArePassings zs _ v W rfl hW)
    have HOI := Lib.hid (show ∀ W, PasS W v zs → _ from fun W hW => impl_OrderAt zs _ v p W rfl hW (i64_sm (by omega)))
    have HOS := Lib.hid (show ∀ W, PasS W v zs → _ from fun W hW => spec_OrderAt zs _ v p W rfl hW (i64_sm (by omega)))
    have HRI := Lib.hid (show ∀ x W, I64 x → PasS W v zs → _ from fun x W hx hW => impl_RankAt zs _ v p x W rfl hW (i64_sm (by omega)) hx)
    have HN := Lib.hid (ord_rank (zs.map Pas.k) p)
    have HLH := Lib.hid (show q = true → askP (zs.map Pas.k) p = true ∧ ∃ t, ordV false (zs.map Pas.k) p = a :: t from fun e => by
      have := lead_head (ks := zs.map Pas.k) (p := p) (by rw [hlv]; exact e)
      rw [hlv] at this
      exact this)
    have HOL := Lib.hid (ordV_len false (zs.map Pas.k) p)
    simp only [hlv] at HLI HLS
    obtain ⟨g, hg⟩ : ∃ g, goodPs (zs.map Pas.k) = g := ⟨_, rfl⟩
    obtain ⟨ab, hab⟩ : ∃ ab, askP (zs.map Pas.k) p = ab := ⟨_, rfl⟩
    simp only [hg] at HAI HAS
    simp only [hab] at HOI HOS HLH
    generalize ordV false (zs.map Pas.k) p = ov at HOI HOS HLH HN HOL
    clear hlv hd hs hb hg hab hp
    go_wp2_with fail
    refine (HLI.out _ HP.out).mono ?_
    rintro e w' ⟨rfl, hb⟩
    replace HB := Lib.hid (step_ HB.out (Nat.le_refl _) hb)
    replace HC := Lib.hid (HC.out.below hb)
    replace HP := Lib.hid (HP.out.below hb)
    clear hb
    go_wp2_with fail
    refine (HLS.out _ HP.out).mono ?_
    rintro e w' ⟨rfl, hb⟩
    replace HB := Lib.hid (step_ HB.out (Nat.le_refl _) hb)
    replace HC := Lib.hid (HC.out.below hb)
    replace HP := Lib.hid (HP.out.below hb)
    clear hb
    go_wp2_with fail
    refine (HAI.out _ HP.out).mono ?_
    rintro e w' ⟨rfl, hb⟩
    replace HB := Lib.hid (step_ HB.out (Nat.le_refl _) hb)
    replace HC := Lib.hid (HC.out.below hb)
    replace HP := Lib.hid (HP.out.below hb)
    clear hb
    go_wp2_with fail
    refine (HAS.out _ HP.out).mono ?_
    rintro e w' ⟨rfl, hb⟩
    replace HB := Lib.hid (step_ HB.out (Nat.le_refl _) hb)
    replace HC := Lib.hid (HC.out.below hb)
    replace HP := Lib.hid (HP.out.below hb)
    clear hb
    go_wp2_with fail
    refine (HOI.out _ HP.out).mono ?_
    rintro e w' ⟨o1, rfl, row1, hb⟩
    replace HB := Lib.hid (step_ HB.out (Nat.le_refl _) hb)
    replace HC := Lib.hid (HC.out.below hb)
    replace HP := Lib.hid (HP.out.below hb)
    have HR1 := Lib.hid row1
    clear hb row1
    go_wp2_with fail
    refine (HOS.out _ HP.out).mono ?_
    rintro e w' ⟨o2, rfl, row2, hb⟩
    replace HB := Lib.hid (step_ HB.out (Nat.le_refl _) hb)
    replace HC := Lib.hid (HC.out.below hb)
    replace HP := Lib.hid (HP.out.below hb)
    replace HR1 := Lib.hid (HR1.out.below hb)
    have HV1 := Lib.hid (vInts_refl ov o1 o2 _ (Sl.of_flat HR1.out) (Sl.of_flat row2))
    have HS1 := Lib.hid (Sl.of_flat HR1.out)
    clear hb row2 HR1 HLI HLS HAI HAS HOI HOS
    have hol := HOL.out
    cases ab with
    | false =>
      go_wp2_with fail
      refine (HV1.out).mono ?_
      rintro e w' ⟨rfl, hb⟩
      replace HB := Lib.hid (step_ HB.out (Nat.le_refl _) hb)
      replace HC := Lib.hid (HC.out.below hb)
      replace HP := Lib.hid (HP.out.below hb)
      obtain ⟨A1, c1, rfl, hc1, hm1, hk1⟩ := (Sl.below (Flat.keeps _) HS1.out hb).open_
      clear hb HV1
      cases q with
      | true => exact absurd (HLH.out rfl).1 (by simp)
      | false =>
        clear HLH
        generalize w' = W0 at *
        go_wp2_with fail
        go_loopw [17] (fun i wr => ∃ k : Nat, k ≤ ov.length ∧ i = .int .i64 k ∧ Below w.heap.size w wr ∧ Below W0.heap.size W0 wr)
          (fun i _ => ov.length - (intOf i).toNat)
        case atStart => exact ⟨0, Nat.zero_le _, rfl, HB.out, Below.refl _ _⟩
        case round =>
          clear HB
          obtain ⟨k, hkl, rfl, hb0, hb'⟩ := hrel
          have HB := Lib.hid hb0
          by_cases hlt : k < ov.length
          · obtain ⟨b, off, rfl, hat⟩ := flat_at hk1 (by omega)
            have hcl := After.keep (int_at (hat k hlt))
            rw [Nat.mul_one] at hcl
            obtain ⟨rk, HX1, hx2, hx3, hx4⟩ := HN.out k hlt
            generalize ov[k] = x at hcl HX1 hx4
            have HR2 := Lib.hid (HRI.out x _ hx4 (HP.out.below hb'))
            simp only [HX1] at HR2
            have hcw := hcl ⟨_, hb'⟩
            clear hat hk1 HX1 hx4 hcl
            go_wp2_with fail
            refine (HR2.out).mono ?_
            rintro e w' ⟨rfl, hb⟩
            replace HB := Lib.hid (step_ HB.out (Nat.le_refl _) hb)
            go_wp2_with fail
            go_roundw
            case rel => exact ⟨k + 1, by omega, by go_num, HB.out, step_ hb' (Nat.le_refl _) hb⟩
            case measure => simp [intOf]; omega
          · replace HC := Lib.hid (HC.out.below hb')
            clear HP HN HRI hk1 HS1 hb' hb0
            go_wp2_with fail
            refine (draw_RankAt v0 m _ HC.out).mono ?_
            rintro e w' ⟨v2, zs2, p2, r2, rfl, hs2, _, _, hp2, hr2, hb⟩
            replace HB := Lib.hid (step_ HB.out (Nat.le_refl _) hb)
            replace HC := Lib.hid (HC.out.below hb)
            have HP2 := Lib.hid hs2
            obtain ⟨x2, xb2, hx2⟩ : ∃ a b, rankV (zs2.map Pas.k) p2 r2 = (a, b) := ⟨_, _, rfl⟩
            have HXI := Lib.hid (show ∀ W, PasS W v2 zs2 → _ from fun W hW => impl_RankAt zs2 _ v2 p2 r2 W rfl hW (i64_sm (by omega)) (i64_sm (by omega)))
            have HXS := Lib.hid (show ∀ W, PasS W v2 zs2 → _ from fun W hW => spec_RankAt zs2 _ v2 p2 r2 W rfl hW (i64_sm (by omega)) (i64_sm (by omega)))
            simp only [hx2] at HXI HXS
            clear hx2 hs2 hb hp2 hr2
            go_wp2_with fail
            refine (HXI.out _ HP2.out).mono ?_
            rintro e w' ⟨rfl, hb⟩
            replace HB := Lib.hid (step_ HB.out (Nat.le_refl _) hb)
            replace HC := Lib.hid (HC.out.below hb)
            replace HP2 := Lib.hid (HP2.out.below hb)
            clear hb
            go_wp2_with fail
            refine (HXS.out _ HP2.out).mono ?_
            rintro e w' ⟨rfl, hb⟩
            replace HB := Lib.hid (step_ HB.out (Nat.le_refl _) hb)
            replace HC := Lib.hid (HC.out.below hb)
            clear hb HP2 HXI HXS
            go_wp2_with fail
            refine (draw_AddSplit v0 m _ HC.out).mono ?_
            rintro e w' ⟨v3, zs3, r3, t3, rfl, hs3, _, hr3, ht3, hb⟩
            replace HB := Lib.hid (step_ HB.out (Nat.le_refl _) hb)
            replace HC := Lib.hid (HC.out.below hb)
            have HP3 := Lib.hid hs3
            have HAI := Lib.hid (show ∀ W, PasS W v3 zs3 → _ from fun W hW => impl_AddSplit zs3 _ v3 r3 t3 W rfl hW (i64_sm (by omega)) (i64_sm (by omega)))
            have HAS := Lib.hid (show ∀ W, PasS W v3 zs3 → _ from fun W hW => spec_AddSplit zs3 _ v3 r3 t3 W rfl hW (i64_sm (by omega)) (i64_sm (by omega)))
            obtain ⟨ab, hab⟩ : ∃ ab, addB (zs3.map Pas.k) r3 t3 = ab := ⟨_, rfl⟩
            simp only [hab] at HAI HAS
            clear hab hs3 hb hr3 ht3
            go_wp2_with fail
            refine (HAI.out _ HP3.out).mono ?_
            rintro e w' ⟨o3, y3, rfl, hy3, row3, hb⟩
            replace HB := Lib.hid (step_ HB.out (Nat.le_refl _) hb)
            replace HC := Lib.hid (HC.out.below hb)
            replace HP3 := Lib.hid (HP3.out.below hb)
            have HO3 := Lib.hid row3.s
            have HY3 := Lib.hid hy3
            clear row3 hy3 hb
            go_wp2_with fail
            refine (HAS.out _ HP3.out).mono ?_
            rintro e w' ⟨o4, y4, rfl, hy4, row4, hb⟩
            replace HB := Lib.hid (step_ HB.out (Nat.le_refl _) hb)
            replace HC := Lib.hid (HC.out.below hb)
            replace HO3 := Lib.hid (HO3.out.below hb)
            have HO4 := Lib.hid row4.s
            have HVP := Lib.hid (vPassings_refl y3 y4 o3 o4 _ HO3.out HO4.out (HY3.out.trans hy4.symm))
            clear row4 hy4 hb HAI HAS HP3 HO3 HO4 HY3
            cases ab <;> (
            go_wp2_with fail
            refine (HVP.out).mono ?_
            rintro e w' ⟨rfl, hb⟩
            replace HB := Lib.hid (step_ HB.out (Nat.le_refl _) hb)
            replace HC := Lib.hid (HC.out.below hb)
            clear hb HVP
            go_wp2_with fail
            refine (draw_49 v0 m _ HC.out).mono ?_
            rintro e w' ⟨v5, zs5, p5, rfl, hs5, _, _, hp5, hb⟩
            replace HB := Lib.hid (step_ HB.out (Nat.le_refl _) hb)
            replace HC := Lib.hid (HC.out.below hb)
            have HP5 := Lib.hid hs5
            have HLI := Lib.hid (show ∀ W, PasS W v5 zs5 → _ from fun W hW => impl_LegOrder zs5 _ v5 p5 W rfl hW (i64_sm (by omega)))
            have HLS := Lib.hid (show ∀ W, PasS W v5 zs5 → _ from fun W hW => spec_LegOrder zs5 _ v5 p5 W rfl hW (i64_sm (by omega)))
            obtain ⟨lb, hlb⟩ : ∃ lb, askP (zs5.map Pas.k) p5 = lb := ⟨_, rfl⟩
            obtain ⟨ll, hll⟩ : ∃ ll, ordV true (zs5.map Pas.k) p5 = ll := ⟨_, rfl⟩
            simp only [hlb, hll] at HLI HLS
            clear hlb hll hs5 hb hp5 HC
            go_wp2_with fail
            refine (HLI.out _ HP5.out).mono ?_
            rintro e w' ⟨o6, rfl, row6, hb⟩
            replace HB := Lib.hid (step_ HB.out (Nat.le_refl _) hb)
            replace HP5 := Lib.hid (HP5.out.below hb)
            have HO6 := Lib.hid (Sl.of_flat row6)
            clear row6 hb
            go_wp2_with fail
            refine (HLS.out _ HP5.out).mono ?_
            rintro e w' ⟨o7, rfl, row7, hb⟩
            replace HB := Lib.hid (step_ HB.out (Nat.le_refl _) hb)
            have HVI := Lib.hid (vInts_refl ll o6 o7 _ (Sl.below (Flat.keeps _) HO6.out hb) (Sl.of_flat row7))
            clear row7 hb HO6 HLI HLS HP5
            cases lb <;> (
            go_wp2_with fail
            refine (HVI.out).mono ?_
            rintro e w' ⟨rfl, hb⟩
            replace HB := Lib.hid (step_ HB.out (Nat.le_refl _) hb)
            go_wp2_with fail
            go_ret
            exact ⟨rfl, HB.out⟩))
    | true =>
      go_wp2_with fail
      refine (HV1.out).mono ?_
      rintro e w' ⟨rfl, hb⟩
      replace HB := Lib.hid (step_ HB.out (Nat.le_refl _) hb)
      replace HC := Lib.hid (HC.out.below hb)
      replace HP := Lib.hid (HP.out.below hb)
      obtain ⟨A1, c1, rfl, hc1, hm1, hk1⟩ := (Sl.below (Flat.keeps _) HS1.out hb).open_
      clear hb HV1
      cases q with
      | true =>
        obtain ⟨hpos, hov⟩ : ∃ h : 0 < ov.length, ov[0] = a := by
          obtain ⟨-, t, e⟩ := HLH.out rfl
          subst e
          exact ⟨by simp, rfl⟩
        clear HLH
        obtain ⟨rk, HX1, hx2, hx3, hx4⟩ := HN.out 0 hpos
        rw [hov] at HX1 hx4
        obtain rfl : rk = 1 := by omega
        have HR2 := Lib.hid (HRI.out a _ hx4 HP.out)
        simp only [HX1] at HR2
        have hcl : ∃ b off, A1 = some ⟨b, off, none⟩ ∧ ∀ s : After w', s.w'.cell? ⟨b, off, none⟩ = some (.int .i64 a) := by
          obtain ⟨b, off, e, hat⟩ := flat_at hk1 (by omega)
          have := After.keep (int_at (hat 0 hpos))
          rw [hov] at this
          simp only [Nat.zero_mul, Nat.add_zero] at this
          exact ⟨b, off, e, this⟩
        obtain ⟨b0, off0, rfl, hcl⟩ := hcl
        have HCL := Lib.hid hcl
        have HBW := Lib.hid (Below.refl w'.heap.size w')
        have HKP := Lib.hid (fun W (hW : Below w'.heap.size w' W) => HP.out.below hW)
        have HK1 := Lib.hid hk1
        generalize w' = W0 at *
        clear HX1 hx2 hx3 hx4 hov hcl hk1
        go_wp2_with fail
        refine HR2.out.mono ?_
        rintro e w' ⟨rfl, hb⟩
        replace HB := Lib.hid (step_ HB.out (Nat.le_refl _) hb)
        have hcw : w'.cell? ⟨b0, off0, none⟩ = some (.int .i64 a) := HCL.out ⟨_, hb⟩
        have HB0 := Lib.hid hb
        clear hb HR2
        go_wp2_with fail
        have hk1 := HK1.out
        go_loopw [17] (fun i wr => ∃ k : Nat, k ≤ ov.length ∧ i = .int .i64 k ∧ Below w.heap.size w wr ∧ Below W0.heap.size W0 wr)
          (fun i _ => ov.length - (intOf i).toNat)
        case atStart => exact ⟨0, Nat.zero_le _, rfl, HB.out, HB0.out⟩
        case round =>
          clear HB
          obtain ⟨k, hkl, rfl, hb0, hb'⟩ := hrel
          have HB := Lib.hid hb0
          by_cases hlt : k < ov.length
          · obtain ⟨b, off, e, hat⟩ := flat_at hk1 (by omega)
            simp only [Option.some.injEq, Addr.mk.injEq, and_true] at e
            obtain ⟨rfl, rfl⟩ := e
            have hcl := After.keep (int_at (hat k hlt))
            rw [Nat.mul_one] at hcl
            obtain ⟨rk, HX1, hx2, hx3, hx4⟩ := HN.out k hlt
            generalize ov[k] = x at hcl HX1 hx4
            have HR2 := Lib.hid (HRI.out x _ hx4 (HP.out.below hb'))
            simp only [HX1] at HR2
            have hcw := hcl ⟨_, hb'⟩
            clear hat hk1 HX1 hx4 hcl
            go_wp2_with fail
            refine (HR2.out).mono ?_
            rintro e w' ⟨rfl, hb⟩
            replace HB := Lib.hid (step_ HB.out (Nat.le_refl _) hb)
            go_wp2_with fail
            go_roundw
            case rel => exact ⟨k + 1, by omega, by go_num, HB.out, step_ hb' (Nat.le_refl _) hb⟩
            case measure => simp [intOf]; omega
          · replace HC := Lib.hid (HC.out.below hb')
            clear HP HN HRI hk1 HS1 hb' hb0
            go_wp2_with fail
            refine (draw_RankAt v0 m _ HC.out).mono ?_
            rintro e w' ⟨v2, zs2, p2, r2, rfl, hs2, _, _, hp2, hr2, hb⟩
            replace HB := Lib.hid (step_ HB.out (Nat.le_refl _) hb)
            replace HC := Lib.hid (HC.out.below hb)
            have HP2 := Lib.hid hs2
            obtain ⟨x2, xb2, hx2⟩ : ∃ a b, rankV (zs2.map Pas.k) p2 r2 = (a, b) := ⟨_, _, rfl⟩
            have HXI := Lib.hid (show ∀ W, PasS W v2 zs2 → _ from fun W hW => impl_RankAt zs2 _ v2 p2 r2 W rfl hW (i64_sm (by omega)) (i64_sm (by omega)))
            have HXS := Lib.hid (show ∀ W, PasS W v2 zs2 → _ from fun W hW => spec_RankAt zs2 _ v2 p2 r2 W rfl hW (i64_sm (by omega)) (i64_sm (by omega)))
            simp only [hx2] at HXI HXS
            clear hx2 hs2 hb hp2 hr2
            go_wp2_with fail
            refine (HXI.out _ HP2.out).mono ?_
            rintro e w' ⟨rfl, hb⟩
            replace HB := Lib.hid (step_ HB.out (Nat.le_refl _) hb)
            replace HC := Lib.hid (HC.out.below hb)
            replace HP2 := Lib.hid (HP2.out.below hb)
            clear hb
            go_wp2_with fail
            refine (HXS.out _ HP2.out).mono ?_
            rintro e w' ⟨rfl, hb⟩
            replace HB := Lib.hid (step_ HB.out (Nat.le_refl _) hb)
            replace HC := Lib.hid (HC.out.below hb)
            clear hb HP2 HXI HXS
            go_wp2_with fail
            refine (draw_AddSplit v0 m _ HC.out).mono ?_
            rintro e w' ⟨v3, zs3, r3, t3, rfl, hs3, _, hr3, ht3, hb⟩
            replace HB := Lib.hid (step_ HB.out (Nat.le_refl _) hb)
            replace HC := Lib.hid (HC.out.below hb)
            have HP3 := Lib.hid hs3
            have HAI := Lib.hid (show ∀ W, PasS W v3 zs3 → _ from fun W hW => impl_AddSplit zs3 _ v3 r3 t3 W rfl hW (i64_sm (by omega)) (i64_sm (by omega)))
            have HAS := Lib.hid (show ∀ W, PasS W v3 zs3 → _ from fun W hW => spec_AddSplit zs3 _ v3 r3 t3 W rfl hW (i64_sm (by omega)) (i64_sm (by omega)))
            obtain ⟨ab, hab⟩ : ∃ ab, addB (zs3.map Pas.k) r3 t3 = ab := ⟨_, rfl⟩
            simp only [hab] at HAI HAS
            clear hab hs3 hb hr3 ht3
            go_wp2_with fail
            refine (HAI.out _ HP3.out).mono ?_
            rintro e w' ⟨o3, y3, rfl, hy3, row3, hb⟩
            replace HB := Lib.hid (step_ HB.out (Nat.le_refl _) hb)
            replace HC := Lib.hid (HC.out.below hb)
            replace HP3 := Lib.hid (HP3.out.below hb)
            have HO3 := Lib.hid row3.s
            have HY3 := Lib.hid hy3
            clear row3 hy3 hb
            go_wp2_with fail
            refine (HAS.out _ HP3.out).mono ?_
            rintro e w' ⟨o4, y4, rfl, hy4, row4, hb⟩
            replace HB := Lib.hid (step_ HB.out (Nat.le_refl _) hb)
            replace HC := Lib.hid (HC.out.below hb)
            replace HO3 := Lib.hid (HO3.out.below hb)
            have HO4 := Lib.hid row4.s
            have HVP := Lib.hid (vPassings_refl y3 y4 o3 o4 _ HO3.out HO4.out (HY3.out.trans hy4.symm))
            clear row4 hy4 hb HAI HAS HP3 HO3 HO4 HY3
            cases ab <;> (
            go_wp2_with fail
            refine (HVP.out).mono ?_
            rintro e w' ⟨rfl, hb⟩
            replace HB := Lib.hid (step_ HB.out (Nat.le_refl _) hb)
            replace HC := Lib.hid (HC.out.below hb)
            clear hb HVP
            go_wp2_with fail
            refine (draw_49 v0 m _ HC.out).mono ?_
            rintro e w' ⟨v5, zs5, p5, rfl, hs5, _, _, hp5, hb⟩
            replace HB := Lib.hid (step_ HB.out (Nat.le_refl _) hb)
            replace HC := Lib.hid (HC.out.below hb)
            have HP5 := Lib.hid hs5
            have HLI := Lib.hid (show ∀ W, PasS W v5 zs5 → _ from fun W hW => impl_LegOrder zs5 _ v5 p5 W rfl hW (i64_sm (by omega)))
            have HLS := Lib.hid (show ∀ W, PasS W v5 zs5 → _ from fun W hW => spec_LegOrder zs5 _ v5 p5 W rfl hW (i64_sm (by omega)))
            obtain ⟨lb, hlb⟩ : ∃ lb, askP (zs5.map Pas.k) p5 = lb := ⟨_, rfl⟩
            obtain ⟨ll, hll⟩ : ∃ ll, ordV true (zs5.map Pas.k) p5 = ll := ⟨_, rfl⟩
            simp only [hlb, hll] at HLI HLS
            clear hlb hll hs5 hb hp5 HC
            go_wp2_with fail
            refine (HLI.out _ HP5.out).mono ?_
            rintro e w' ⟨o6, rfl, row6, hb⟩
            replace HB := Lib.hid (step_ HB.out (Nat.le_refl _) hb)
            replace HP5 := Lib.hid (HP5.out.below hb)
            have HO6 := Lib.hid (Sl.of_flat row6)
            clear row6 hb
            go_wp2_with fail
            refine (HLS.out _ HP5.out).mono ?_
            rintro e w' ⟨o7, rfl, row7, hb⟩
            replace HB := Lib.hid (step_ HB.out (Nat.le_refl _) hb)
            have HVI := Lib.hid (vInts_refl ll o6 o7 _ (Sl.below (Flat.keeps _) HO6.out hb) (Sl.of_flat row7))
            clear row7 hb HO6 HLI HLS HP5
            cases lb <;> (
            go_wp2_with fail
            refine (HVI.out).mono ?_
            rintro e w' ⟨rfl, hb⟩
            replace HB := Lib.hid (step_ HB.out (Nat.le_refl _) hb)
            go_wp2_with fail
            go_ret
            exact ⟨rfl, HB.out⟩))
      | false =>
        clear HLH
        generalize w' = W0 at *
        go_wp2_with fail
        go_loopw [17] (fun i wr => ∃ k : Nat, k ≤ ov.length ∧ i = .int .i64 k ∧ Below w.heap.size w wr ∧ Below W0.heap.size W0 wr)
          (fun i _ => ov.length - (intOf i).toNat)
        case atStart => exact ⟨0, Nat.zero_le _, rfl, HB.out, Below.refl _ _⟩
        case round =>
          clear HB
          obtain ⟨k, hkl, rfl, hb0, hb'⟩ := hrel
          have HB := Lib.hid hb0
          by_cases hlt : k < ov.length
          · obtain ⟨b, off, rfl, hat⟩ := flat_at hk1 (by omega)
            have hcl := After.keep (int_at (hat k hlt))
            rw [Nat.mul_one] at hcl
            obtain ⟨rk, HX1, hx2, hx3, hx4⟩ := HN.out k hlt
            generalize ov[k] = x at hcl HX1 hx4
            have HR2 := Lib.hid (HRI.out x _ hx4 (HP.out.below hb'))
            simp only [HX1] at HR2
            have hcw := hcl ⟨_, hb'⟩
            clear hat hk1 HX1 hx4 hcl
            go_wp2_with fail
            refine (HR2.out).mono ?_
            rintro e w' ⟨rfl, hb⟩
            replace HB := Lib.hid (step_ HB.out (Nat.le_refl _) hb)
            go_wp2_with fail
            go_roundw
            case rel => exact ⟨k + 1, by omega, by go_num, HB.out, step_ hb' (Nat.le_refl _) hb⟩
            case measure => simp [intOf]; omega
          · replace HC := Lib.hid (HC.out.below hb')
            clear HP HN HRI hk1 HS1 hb' hb0
            go_wp2_with fail
            refine (draw_RankAt v0 m _ HC.out).mono ?_
            rintro e w' ⟨v2, zs2, p2, r2, rfl, hs2, _, _, hp2, hr2, hb⟩
            replace HB := Lib.hid (step_ HB.out (Nat.le_refl _) hb)
            replace HC := Lib.hid (HC.out.below hb)
            have HP2 := Lib.hid hs2
            obtain ⟨x2, xb2, hx2⟩ : ∃ a b, rankV (zs2.map Pas.k) p2 r2 = (a, b) := ⟨_, _, rfl⟩
            have HXI := Lib.hid (show ∀ W, PasS W v2 zs2 → _ from fun W hW => impl_RankAt zs2 _ v2 p2 r2 W rfl hW (i64_sm (by omega)) (i64_sm (by omega)))
            have HXS := Lib.hid (show ∀ W, PasS W v2 zs2 → _ from fun W hW => spec_RankAt zs2 _ v2 p2 r2 W rfl hW (i64_sm (by omega)) (i64_sm (by omega)))
            simp only [hx2] at HXI HXS
            clear hx2 hs2 hb hp2 hr2
            go_wp2_with fail
            refine (HXI.out _ HP2.out).mono ?_
            rintro e w' ⟨rfl, hb⟩
            replace HB := Lib.hid (step_ HB.out (Nat.le_refl _) hb)
            replace HC := Lib.hid (HC.out.below hb)
            replace HP2 := Lib.hid (HP2.out.below hb)
            clear hb
            go_wp2_with fail
            refine (HXS.out _ HP2.out).mono ?_
            rintro e w' ⟨rfl, hb⟩
            replace HB := Lib.hid (step_ HB.out (Nat.le_refl _) hb)
            replace HC := Lib.hid (HC.out.below hb)
            clear hb HP2 HXI HXS
            go_wp2_with fail
            refine (draw_AddSplit v0 m _ HC.out).mono ?_
            rintro e w' ⟨v3, zs3, r3, t3, rfl, hs3, _, hr3, ht3, hb⟩
            replace HB := Lib.hid (step_ HB.out (Nat.le_refl _) hb)
            replace HC := Lib.hid (HC.out.below hb)
            have HP3 := Lib.hid hs3
            have HAI := Lib.hid (show ∀ W, PasS W v3 zs3 → _ from fun W hW => impl_AddSplit zs3 _ v3 r3 t3 W rfl hW (i64_sm (by omega)) (i64_sm (by omega)))
            have HAS := Lib.hid (show ∀ W, PasS W v3 zs3 → _ from fun W hW => spec_AddSplit zs3 _ v3 r3 t3 W rfl hW (i64_sm (by omega)) (i64_sm (by omega)))
            obtain ⟨ab, hab⟩ : ∃ ab, addB (zs3.map Pas.k) r3 t3 = ab := ⟨_, rfl⟩
            simp only [hab] at HAI HAS
            clear hab hs3 hb hr3 ht3
            go_wp2_with fail
            refine (HAI.out _ HP3.out).mono ?_
            rintro e w' ⟨o3, y3, rfl, hy3, row3, hb⟩
            replace HB := Lib.hid (step_ HB.out (Nat.le_refl _) hb)
            replace HC := Lib.hid (HC.out.below hb)
            replace HP3 := Lib.hid (HP3.out.below hb)
            have HO3 := Lib.hid row3.s
            have HY3 := Lib.hid hy3
            clear row3 hy3 hb
            go_wp2_with fail
            refine (HAS.out _ HP3.out).mono ?_
            rintro e w' ⟨o4, y4, rfl, hy4, row4, hb⟩
            replace HB := Lib.hid (step_ HB.out (Nat.le_refl _) hb)
            replace HC := Lib.hid (HC.out.below hb)
            replace HO3 := Lib.hid (HO3.out.below hb)
            have HO4 := Lib.hid row4.s
            have HVP := Lib.hid (vPassings_refl y3 y4 o3 o4 _ HO3.out HO4.out (HY3.out.trans hy4.symm))
            clear row4 hy4 hb HAI HAS HP3 HO3 HO4 HY3
            cases ab <;> (
            go_wp2_with fail
            refine (HVP.out).mono ?_
            rintro e w' ⟨rfl, hb⟩
            replace HB := Lib.hid (step_ HB.out (Nat.le_refl _) hb)
            replace HC := Lib.hid (HC.out.below hb)
            clear hb HVP
            go_wp2_with fail
            refine (draw_49 v0 m _ HC.out).mono ?_
            rintro e w' ⟨v5, zs5, p5, rfl, hs5, _, _, hp5, hb⟩
            replace HB := Lib.hid (step_ HB.out (Nat.le_refl _) hb)
            replace HC := Lib.hid (HC.out.below hb)
            have HP5 := Lib.hid hs5
            have HLI := Lib.hid (show ∀ W, PasS W v5 zs5 → _ from fun W hW => impl_LegOrder zs5 _ v5 p5 W rfl hW (i64_sm (by omega)))
            have HLS := Lib.hid (show ∀ W, PasS W v5 zs5 → _ from fun W hW => spec_LegOrder zs5 _ v5 p5 W rfl hW (i64_sm (by omega)))
            obtain ⟨lb, hlb⟩ : ∃ lb, askP (zs5.map Pas.k) p5 = lb := ⟨_, rfl⟩
            obtain ⟨ll, hll⟩ : ∃ ll, ordV true (zs5.map Pas.k) p5 = ll := ⟨_, rfl⟩
            simp only [hlb, hll] at HLI HLS
            clear hlb hll hs5 hb hp5 HC
            go_wp2_with fail
            refine (HLI.out _ HP5.out).mono ?_
            rintro e w' ⟨o6, rfl, row6, hb⟩
            replace HB := Lib.hid (step_ HB.out (Nat.le_refl _) hb)
            replace HP5 := Lib.hid (HP5.out.below hb)
            have HO6 := Lib.hid (Sl.of_flat row6)
            clear row6 hb
            go_wp2_with fail
            refine (HLS.out _ HP5.out).mono ?_
            rintro e w' ⟨o7, rfl, row7, hb⟩
            replace HB := Lib.hid (step_ HB.out (Nat.le_refl _) hb)
            have HVI := Lib.hid (vInts_refl ll o6 o7 _ (Sl.below (Flat.keeps _) HO6.out hb) (Sl.of_flat row7))
            clear row7 hb HO6 HLI HLS HP5
            cases lb <;> (
            go_wp2_with fail
            refine (HVI.out).mono ?_
            rintro e w' ⟨rfl, hb⟩
            replace HB := Lib.hid (step_ HB.out (Nat.le_refl _) hb)
            go_wp2_with fail
            go_ret
            exact ⟨rfl, HB.out⟩))
end Go.Proofs.Ytbeonigmcbipeaa
