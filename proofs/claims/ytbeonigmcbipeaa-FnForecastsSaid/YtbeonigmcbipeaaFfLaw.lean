/- The walk of the law FnForecasts: it returns true. No condition. -/
import Derived.Test.YtbeonigmcbipeaaFfQ
import Derived.Test.YtbeonigmcbipeaaByte
import Derived.Test.YtbeonigmcbipeaaDrR
namespace Go.Proofs.Ytbeonigmcbipeaa
open Go Go.RowKit

theorem i64_small {x : Int} (h : -100000 ≤ x ∧ x ≤ 100000) : I64 x := by unfold I64; omega
theorem nyV_i64 {ks : List PK} {p t : Int} : ∀ x ∈ nyV ks p t, I64 x := by
  intro x hx
  unfold nyV at hx
  split at hx
  · rename_i hc
    obtain ⟨k, hk, rfl⟩ := List.mem_map.1 hx
    obtain ⟨i, hi, rfl⟩ := List.getElem_of_mem (List.mem_filter.1 hk).1
    have := ((goodPs_iff.1 (askP_place hc.1).1).1 i hi).1.1
    exact i64_small (by omega)
  · simp at hx
set_option maxRecDepth 100000 in
set_option maxHeartbeats 8000000 in
theorem fnForecasts_walk (v0 : Value) (m : Nat) (w : World) (h0 : CodeS w v0 m) :
    Calls Try.prog 12 #[v0] w fun e w' => e = .returned (.bool true) ∧ Below w.heap.size w w' := by
  obtain ⟨q, hq⟩ : ∃ q, q = decide (65536 < m) := ⟨_, rfl⟩
  have HC := Lib.hid h0
  have HV := Lib.hid (vBig_any v0 m q w h0 hq)
  clear hq h0
  cases q with
  | true =>
    go_enter Try.func12, Try.ntmps12
    go_wp2_with fail
    refine HV.out.mono ?_
    rintro e w1 ⟨rfl, hb1⟩
    go_wp2_with fail
    go_ret
    exact ⟨rfl, hb1⟩
  | false =>
    go_enter Try.func12, Try.ntmps12
    go_wp2_with fail
    refine HV.out.mono ?_
    rintro e w1 ⟨rfl, hb1⟩
    go_wp2_with fail
    refine (draw_41 v0 m w1 (HC.out.below hb1)).mono ?_
    rintro e w2 ⟨v, zs, p, r, rfl, hs, hl, hd, hp, hr, hb2⟩
    have hB2 := step_ hb1 (Nat.le_refl _) hb2
    obtain ⟨f, fb, hfv⟩ : ∃ f fb, fcV (zs.map Pas.k) p r = (f, fb) := ⟨_, _, rfl⟩
    obtain ⟨x, hxv⟩ : ∃ x, xrV (zs.map Pas.k) p r = (x, fb) := ⟨(xrV (zs.map Pas.k) p r).1, by rw [show fb = (fcV (zs.map Pas.k) p r).2 by rw [hfv], ← xrV_ok]⟩
    obtain ⟨rk, rb, hrv⟩ : ∃ rk rb, rankV (zs.map Pas.k) p r = (rk, rb) := ⟨_, _, rfl⟩
    have HI := Lib.hid (show ∀ W, PasS W v zs → _ from fun W hW => impl_Forecast zs _ v p r W rfl hW (i64_small (by omega)) (i64_small (by omega)))
    have HS := Lib.hid (show ∀ W, PasS W v zs → _ from fun W hW => spec_Forecast zs _ v p r W rfl hW (i64_small (by omega)) (i64_small (by omega)))
    have HXI := Lib.hid (show ∀ W, PasS W v zs → _ from fun W hW => impl_ExpectedRank zs _ v p r W rfl hW (i64_small (by omega)) (i64_small (by omega)))
    have HXS := Lib.hid (show ∀ W, PasS W v zs → _ from fun W hW => spec_ExpectedRank zs _ v p r W rfl hW (i64_small (by omega)) (i64_small (by omega)))
    have HRK := Lib.hid (show ∀ W, PasS W v zs → _ from fun W hW => impl_RankAt zs _ v p r W rfl hW (i64_small (by omega)) (i64_small (by omega)))
    simp only [hfv] at HI HS
    simp only [hxv] at HXI HXS
    simp only [hrv] at HRK
    have HLE := Lib.hid (show fb = true → rb = true → rk ≤ x from fun h1 h2 => by
      have := rank_xr (ks := zs.map Pas.k) (p := p) (r := r) (by rw [hrv]; exact h2) (by rw [hfv]; exact h1)
      rw [hrv, hxv] at this
      exact this)
    have HSP := Lib.hid (show fb = true → 0 ≤ p ∧ ∀ k (h : k < zs.length), zs[k].k.runner = r → p < (zs[k].k.splits.length : Int) → atP zs[k].k p.toNat = f from fun h1 => by
      have hf : (fcV (zs.map Pas.k) p r).2 = true := by rw [hfv]; exact h1
      refine ⟨(askP_place (fcV_true hf).1).2.1, fun k hk he hpp => ?_⟩
      rw [split_fc hf (List.mem_map_of_mem (List.getElem_mem hk)) he hpp, hfv])
    have HPS := Lib.hid hs
    clear hfv hxv hrv hd hs hb1 hb2 HV
    go_wp2_with fail
    refine (HI.out _ HPS.out).mono ?_
    rintro e w3 ⟨rfl, hb3⟩
    have hB3 := step_ hB2 (Nat.le_refl _) hb3
    have HP3 := Lib.hid (HPS.out.below hb3)
    clear hb3 hB2
    go_wp2_with fail
    refine (HS.out _ HP3.out).mono ?_
    rintro e w4 ⟨rfl, hb4⟩
    have hB4 := step_ hB3 (Nat.le_refl _) hb4
    have HP4 := Lib.hid (HP3.out.below hb4)
    clear hb4 hB3
    cases fb with
    | false =>
      go_wp2_with fail
      refine (HXI.out _ HP4.out).mono ?_
      rintro e w5 ⟨rfl, hb5⟩
      have hB5 := step_ hB4 (Nat.le_refl _) hb5
      have HP5 := Lib.hid (HP4.out.below hb5)
      clear hb5 hB4
      go_wp2_with fail
      refine (HXS.out _ HP5.out).mono ?_
      rintro e w5' ⟨rfl, hb5⟩
      have HB := step_ hB5 (Nat.le_refl _) hb5
      clear hb5 hB5
      go_wp2_with fail
      refine (draw_NotYetAt v0 m _ (HC.out.below HB)).mono ?_
      rintro e w6 ⟨v', zs', p', t', rfl, hs', hl', hd', hp', hr', hb6⟩
      have hB6 := step_ HB (Nat.le_refl _) hb6
      obtain ⟨ob, hob⟩ : ∃ ob, (askP (zs'.map Pas.k) p' && inB t' 0 36000) = ob := ⟨_, rfl⟩
      have HI64 := Lib.hid (nyV_i64 (ks := zs'.map Pas.k) (p := p') (t := t'))
      have HNF := Lib.hid (fun x (hx : x ∈ nyV (zs'.map Pas.k) p' t') => ny_facts hx)
      have HNL := Lib.hid (nyV_len (zs'.map Pas.k) p' t')
      have HNI := Lib.hid (show ∀ W, PasS W v' zs' → _ from fun W hW => impl_NotYetAt zs' _ v' p' t' W rfl hW (i64_small (by omega)) (i64_small (by omega)))
      have HNS := Lib.hid (show ∀ W, PasS W v' zs' → _ from fun W hW => spec_NotYetAt zs' _ v' p' t' W rfl hW (i64_small (by omega)) (i64_small (by omega)))
      have HFI := Lib.hid (show ∀ (x : Int) W, I64 x → PasS W v' zs' → _ from fun x W hx hW => impl_Forecast zs' _ v' p' x W rfl hW (i64_small (by omega)) hx)
      have HRI := Lib.hid (show ∀ (x : Int) W, I64 x → PasS W v' zs' → _ from fun x W hx hW => impl_RankAt zs' _ v' p' x W rfl hW (i64_small (by omega)) hx)
      obtain ⟨ny, hny⟩ : ∃ ny, nyV (zs'.map Pas.k) p' t' = ny := ⟨_, rfl⟩
      simp only [hob] at HNI HNS
      rw [hny] at HNI HNS HI64 HNF HNL
      have HPS' := Lib.hid hs'
      clear hob hny hs' hd' hb6
      go_wp2_with fail
      refine (HNI.out _ HPS'.out).mono ?_
      rintro e w7 ⟨o1, rfl, row1, hb7⟩
      have HPS7 := Lib.hid (HPS'.out.below hb7)
      have hB7 := step_ hB6 (Nat.le_refl _) hb7
      have HR1 := Lib.hid row1
      clear row1 hb7 hB6
      go_wp2_with fail
      refine (HNS.out _ HPS7.out).mono ?_
      rintro e w8 ⟨o2, rfl, row2, hb8⟩
      have HV8 := Lib.hid (vInts_refl ny o1 o2 _ (Sl.of_flat (HR1.out.below hb8)) (Sl.of_flat row2))
      have HS1 := Lib.hid (Sl.of_flat (HR1.out.below hb8))
      have HPS8 := Lib.hid (HPS7.out.below hb8)
      have hB8 := step_ hB7 (Nat.le_refl _) hb8
      clear row2 hb8 hB7
      cases ob <;> (
      go_wp2_with fail
      refine HV8.out.mono ?_
      rintro e w9 ⟨rfl, hb9⟩
      have hB9 := step_ hB8 (Nat.le_refl _) hb9
      have HPS9 := Lib.hid (HPS8.out.below hb9)
      obtain ⟨A1, c1, rfl, hc1, hm1, hk1⟩ := (Sl.below (Flat.keeps _) HS1.out hb9).open_
      clear hb9 hB8
      have hnl := HNL.out
      go_wp2_with fail
      go_loopw [24] (fun i wr => ∃ k : Nat, k ≤ ny.length ∧ i = .int .i64 k ∧ Below w.heap.size w wr ∧ Below w9.heap.size w9 wr)
        (fun i _ => ny.length - (intOf i).toNat)
      case atStart => exact ⟨0, Nat.zero_le _, rfl, hB9, Below.refl _ _⟩
      case round =>
        clear hB9
        obtain ⟨k, hkl, rfl, hb, hb'⟩ := hrel
        by_cases hlt : k < ny.length
        · obtain ⟨b, off, rfl, hat⟩ := flat_at hk1 (by omega)
          have hcl := After.keep (int_at (hat k hlt))
          rw [Nat.mul_one] at hcl
          have HX := HNF.out ny[k] (List.getElem_mem hlt)
          have HY := HI64.out ny[k] (List.getElem_mem hlt)
          generalize ny[k] = x at hcl HX HY
          obtain ⟨y, hy⟩ : ∃ y, fcV (zs'.map Pas.k) p' x = (y, true) := ⟨_, Prod.ext rfl HX.1⟩
          obtain ⟨yr, hyr⟩ : ∃ yr, rankV (zs'.map Pas.k) p' x = (yr, false) := ⟨_, Prod.ext rfl HX.2.2⟩
          have hyt : y < t' := by have := HX.2.1; rw [hy] at this; exact this
          have HF2 := Lib.hid (fun W => HFI.out x W HY)
          have HR2 := Lib.hid (fun W => HRI.out x W HY)
          simp only [hy] at HF2
          simp only [hyr] at HR2
          have HCL := Lib.hid hcl
          have hcw := hcl ⟨_, hb'⟩
          clear hat hk1 HX HY hy hyr hcl
          go_wp2_with (first
            | (go_at_call 28; refine (HF2.out _ (HPS9.out.below hb')).mono ?_; rintro e w10 ⟨rfl, hb10⟩; have hb10' := step_ hb' (Nat.le_refl _) hb10; have hcw2 := HCL.out ⟨_, hb10'⟩)
            | (go_at_call 20; refine (HR2.out _ (HPS9.out.below hb10')).mono ?_; rintro e w11 ⟨rfl, hb11⟩))
          go_roundw
          case rel => exact ⟨k + 1, by omega, by go_num, step_ (step_ hb (Nat.le_refl _) hb10) (Nat.le_refl _) hb11, step_ hb10' (Nat.le_refl _) hb11⟩
          case measure => simp [intOf]; omega
        · go_wp2_with fail
          refine (draw_44 v0 m _ (HC.out.below hb)).mono ?_
          rintro e w12 ⟨v2, zs2, p2, r2, rfl, hs2, _, _, hp2, hr2, hb12⟩
          have hB12 := step_ hb (Nat.le_refl _) hb12
          obtain ⟨x2, xb2, hx2⟩ : ∃ a b, xrV (zs2.map Pas.k) p2 r2 = (a, b) := ⟨_, _, rfl⟩
          have HA := Lib.hid (impl_ExpectedRank zs2 _ v2 p2 r2 _ rfl hs2 (i64_small (by omega)) (i64_small (by omega)))
          have HBS := Lib.hid (show ∀ W, PasS W v2 zs2 → _ from fun W hW => spec_ExpectedRank zs2 _ v2 p2 r2 W rfl hW (i64_small (by omega)) (i64_small (by omega)))
          simp only [hx2] at HA HBS
          have HS2 := Lib.hid hs2
          clear hx2 hs2 hb12 hb hb'
          go_wp2_with fail
          refine HA.out.mono ?_
          rintro e w13 ⟨rfl, hb13⟩
          have hB13 := step_ hB12 (Nat.le_refl _) hb13
          go_wp2_with fail
          refine (HBS.out _ (HS2.out.below hb13)).mono ?_
          rintro e w14 ⟨rfl, hb14⟩
          have hB14 := step_ hB13 (Nat.le_refl _) hb14
          cases xb2 <;> (
            go_wp2_with fail
            go_ret
            exact ⟨rfl, hB14⟩))
    | true =>
      go_wp2_with fail
      refine (HXI.out _ HP4.out).mono ?_
      rintro e w5 ⟨rfl, hb5⟩
      have hB5 := step_ hB4 (Nat.le_refl _) hb5
      have HP5 := Lib.hid (HP4.out.below hb5)
      clear hb5 hB4
      go_wp2_with fail
      refine (HXS.out _ HP5.out).mono ?_
      rintro e w5' ⟨rfl, hb5⟩
      have hB5' := step_ hB5 (Nat.le_refl _) hb5
      have HP6 := Lib.hid (HP5.out.below hb5)
      clear hb5 hB5
      go_wp2_with fail
      refine (HRK.out _ HP6.out).mono ?_
      rintro e w5'' ⟨rfl, hb6⟩
      have hB6 := step_ hB5' (Nat.le_refl _) hb6
      have HP7 := Lib.hid (HP6.out.below hb6)
      clear hb6 hB5'
      have hle := HLE.out (by first | rfl | trivial)
      have hsp := HSP.out (by first | rfl | trivial)
      have hrb : rb = false ∨ (rb = true ∧ rk ≤ x) := by
        cases rb with
        | false => exact .inl rfl
        | true => exact .inr ⟨rfl, hle (by first | rfl | trivial)⟩
      have hp0 := hsp.1
      have HSS := Lib.hid hsp.2
      have HIN := Lib.hid HP7.out.2
      obtain ⟨A, c, rfl, hc, hm, hk⟩ := HP7.out.1.open_
      have HK := Lib.hid hk
      have HB6 := Lib.hid hB6
      obtain ⟨P, rfl⟩ : ∃ P : Nat, p = P := ⟨p.toNat, by omega⟩
      simp only [Int.toNat_natCast] at HSS
      clear hle hsp hk HSP HLE HP6 HP7 HPS HP3 HP4 HP5 HI HS HXI HXS HRK
      rcases hrb with rfl | ⟨rfl, hle⟩ <;> (
      go_wp2_with fail
      go_loopw [16] (fun i wr => ∃ k : Nat, k ≤ zs.length ∧ i = .int .i64 k ∧ Below w.heap.size w wr ∧ Below w5''.heap.size w5'' wr)
        (fun i _ => zs.length - (intOf i).toNat)
      case atStart => exact ⟨0, Nat.zero_le _, rfl, HB6.out, Below.refl _ _⟩
      case round =>
        obtain ⟨k, hkl, rfl, HB, hb'⟩ := hrel
        by_cases hlt : k < zs.length
        · obtain ⟨b, off, rfl, hat⟩ := flat_at HK.out (by omega)
          have hcl := Pas.cellsOld (rangeAt_below (hat k hlt) hb')
          have hcell := (hcl ⟨_, Below.refl _ _⟩).1
          have hcell2 := (hcl ⟨_, Below.refl _ _⟩).2
          have hin := (HIN.out _ (List.getElem_mem hlt)).below hb'
          have HSK := Lib.hid (HSS.out k hlt)
          have hpn := hin.len
          clear hat hcl
          generalize zs[k] = z at hcell hcell2 hin HSK hpn
          obtain ⟨⟨rn, sp⟩, A', n', c'⟩ := z
          simp only at hcell hcell2 hpn HSK
          subst hpn
          by_cases hrn : rn = r
          · by_cases hps : P < sp.length
            · obtain ⟨b2, o2, hA2, hsl⟩ := Pas.look hin (P := P) hps
              simp only at hA2
              subst hA2
              rw [HSK.out hrn (by omega)] at hsl
              have hsl2 := hsl ⟨_, Below.refl _ _⟩
              clear hsl
              simp only at hsl2
              clear hin
              subst hrn
              go_wp2
              go_roundw
              case rel => exact ⟨k + 1, by omega, by go_num, HB, hb'⟩
              case measure => simp [intOf]; omega
            · clear hin
              subst hrn
              go_wp2
              go_roundw
              case rel => exact ⟨k + 1, by omega, by go_num, HB, hb'⟩
              case measure => simp [intOf]; omega
          · clear hin
            go_wp2
            go_roundw
            case rel => exact ⟨k + 1, by omega, by go_num, HB, hb'⟩
            case measure => simp [intOf]; omega
        · clear hb'
          go_wp2_with fail
          refine (draw_NotYetAt v0 m _ (HC.out.below HB)).mono ?_
          rintro e w6 ⟨v', zs', p', t', rfl, hs', hl', hd', hp', hr', hb6⟩
          have hB6 := step_ HB (Nat.le_refl _) hb6
          obtain ⟨ob, hob⟩ : ∃ ob, (askP (zs'.map Pas.k) p' && inB t' 0 36000) = ob := ⟨_, rfl⟩
          have HI64 := Lib.hid (nyV_i64 (ks := zs'.map Pas.k) (p := p') (t := t'))
          have HNF := Lib.hid (fun x (hx : x ∈ nyV (zs'.map Pas.k) p' t') => ny_facts hx)
          have HNL := Lib.hid (nyV_len (zs'.map Pas.k) p' t')
          have HNI := Lib.hid (show ∀ W, PasS W v' zs' → _ from fun W hW => impl_NotYetAt zs' _ v' p' t' W rfl hW (i64_small (by omega)) (i64_small (by omega)))
          have HNS := Lib.hid (show ∀ W, PasS W v' zs' → _ from fun W hW => spec_NotYetAt zs' _ v' p' t' W rfl hW (i64_small (by omega)) (i64_small (by omega)))
          have HFI := Lib.hid (show ∀ (x : Int) W, I64 x → PasS W v' zs' → _ from fun x W hx hW => impl_Forecast zs' _ v' p' x W rfl hW (i64_small (by omega)) hx)
          have HRI := Lib.hid (show ∀ (x : Int) W, I64 x → PasS W v' zs' → _ from fun x W hx hW => impl_RankAt zs' _ v' p' x W rfl hW (i64_small (by omega)) hx)
          obtain ⟨ny, hny⟩ : ∃ ny, nyV (zs'.map Pas.k) p' t' = ny := ⟨_, rfl⟩
          simp only [hob] at HNI HNS
          rw [hny] at HNI HNS HI64 HNF HNL
          have HPS' := Lib.hid hs'
          clear hob hny hs' hd' hb6
          go_wp2_with fail
          refine (HNI.out _ HPS'.out).mono ?_
          rintro e w7 ⟨o1, rfl, row1, hb7⟩
          have HPS7 := Lib.hid (HPS'.out.below hb7)
          have hB7 := step_ hB6 (Nat.le_refl _) hb7
          have HR1 := Lib.hid row1
          clear row1 hb7 hB6
          go_wp2_with fail
          refine (HNS.out _ HPS7.out).mono ?_
          rintro e w8 ⟨o2, rfl, row2, hb8⟩
          have HV8 := Lib.hid (vInts_refl ny o1 o2 _ (Sl.of_flat (HR1.out.below hb8)) (Sl.of_flat row2))
          have HS1 := Lib.hid (Sl.of_flat (HR1.out.below hb8))
          have HPS8 := Lib.hid (HPS7.out.below hb8)
          have hB8 := step_ hB7 (Nat.le_refl _) hb8
          clear row2 hb8 hB7
          cases ob <;> (
          go_wp2_with fail
          refine HV8.out.mono ?_
          rintro e w9 ⟨rfl, hb9⟩
          have hB9 := step_ hB8 (Nat.le_refl _) hb9
          have HPS9 := Lib.hid (HPS8.out.below hb9)
          obtain ⟨A1, c1, rfl, hc1, hm1, hk1⟩ := (Sl.below (Flat.keeps _) HS1.out hb9).open_
          clear hb9 hB8
          have hnl := HNL.out
          go_wp2_with fail
          go_loopw [24] (fun i wr => ∃ k : Nat, k ≤ ny.length ∧ i = .int .i64 k ∧ Below w.heap.size w wr ∧ Below w9.heap.size w9 wr)
            (fun i _ => ny.length - (intOf i).toNat)
          case atStart => exact ⟨0, Nat.zero_le _, rfl, hB9, Below.refl _ _⟩
          case round =>
            clear hB9
            obtain ⟨k, hkl, rfl, hb, hb'⟩ := hrel
            by_cases hlt : k < ny.length
            · obtain ⟨b, off, rfl, hat⟩ := flat_at hk1 (by omega)
              have hcl := After.keep (int_at (hat k hlt))
              rw [Nat.mul_one] at hcl
              have HX := HNF.out ny[k] (List.getElem_mem hlt)
              have HY := HI64.out ny[k] (List.getElem_mem hlt)
              generalize ny[k] = x at hcl HX HY
              obtain ⟨y, hy⟩ : ∃ y, fcV (zs'.map Pas.k) p' x = (y, true) := ⟨_, Prod.ext rfl HX.1⟩
              obtain ⟨yr, hyr⟩ : ∃ yr, rankV (zs'.map Pas.k) p' x = (yr, false) := ⟨_, Prod.ext rfl HX.2.2⟩
              have hyt : y < t' := by have := HX.2.1; rw [hy] at this; exact this
              have HF2 := Lib.hid (fun W => HFI.out x W HY)
              have HR2 := Lib.hid (fun W => HRI.out x W HY)
              simp only [hy] at HF2
              simp only [hyr] at HR2
              have HCL := Lib.hid hcl
              have hcw := hcl ⟨_, hb'⟩
              clear hat hk1 HX HY hy hyr hcl
              go_wp2_with (first
                | (go_at_call 28; refine (HF2.out _ (HPS9.out.below hb')).mono ?_; rintro e w10 ⟨rfl, hb10⟩; have hb10' := step_ hb' (Nat.le_refl _) hb10; have hcw2 := HCL.out ⟨_, hb10'⟩)
                | (go_at_call 20; refine (HR2.out _ (HPS9.out.below hb10')).mono ?_; rintro e w11 ⟨rfl, hb11⟩))
              go_roundw
              case rel => exact ⟨k + 1, by omega, by go_num, step_ (step_ hb (Nat.le_refl _) hb10) (Nat.le_refl _) hb11, step_ hb10' (Nat.le_refl _) hb11⟩
              case measure => simp [intOf]; omega
            · go_wp2_with fail
              refine (draw_44 v0 m _ (HC.out.below hb)).mono ?_
              rintro e w12 ⟨v2, zs2, p2, r2, rfl, hs2, _, _, hp2, hr2, hb12⟩
              have hB12 := step_ hb (Nat.le_refl _) hb12
              obtain ⟨x2, xb2, hx2⟩ : ∃ a b, xrV (zs2.map Pas.k) p2 r2 = (a, b) := ⟨_, _, rfl⟩
              have HA := Lib.hid (impl_ExpectedRank zs2 _ v2 p2 r2 _ rfl hs2 (i64_small (by omega)) (i64_small (by omega)))
              have HBS := Lib.hid (show ∀ W, PasS W v2 zs2 → _ from fun W hW => spec_ExpectedRank zs2 _ v2 p2 r2 W rfl hW (i64_small (by omega)) (i64_small (by omega)))
              simp only [hx2] at HA HBS
              have HS2 := Lib.hid hs2
              clear hx2 hs2 hb12 hb hb'
              go_wp2_with fail
              refine HA.out.mono ?_
              rintro e w13 ⟨rfl, hb13⟩
              have hB13 := step_ hB12 (Nat.le_refl _) hb13
              go_wp2_with fail
              refine (HBS.out _ (HS2.out.below hb13)).mono ?_
              rintro e w14 ⟨rfl, hb14⟩
              have hB14 := step_ hB13 (Nat.le_refl _) hb14
              cases xb2 <;> (
                go_wp2_with fail
                go_ret
                exact ⟨rfl, hB14⟩)))
end Go.Proofs.Ytbeonigmcbipeaa
