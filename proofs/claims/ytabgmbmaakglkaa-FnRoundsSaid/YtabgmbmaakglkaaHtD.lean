/- The walk of the spec's test on a round. No condition. -/
import Derived.Test.YtabgmbmaakglkaaHtC
namespace Go.Proofs.Ytabgmbmaakglkaa
open Go Go.RowKit

set_option maxRecDepth 100000 in
set_option maxHeartbeats 4000000 in
theorem l18Good_any (xs : List Ht) (v : Value) (w : World) (h : HtS w v xs) (hl : xs.length ≤ 1048577) : Calls Try.prog 56 #[v] w fun e w' => e = .returned (.bool (goodR (xs.map Ht.k))) ∧ Below w.heap.size w w' := by
  obtain ⟨A, c, rfl, hc, hm, hk⟩ := h.1.open_
  have HI := Lib.hid h.2
  clear h
  go_enter Try.func56, Try.ntmps56
  go_wp2
  have HB0 := Lib.hid (below_alloc (Below.refl w.heap.size w) (.cells #[] 3))
  have HR0 := Lib.hid (Row.lit_nil w 3 1 (Nat.le_refl w.heap.size))
  generalize w.alloc (.cells #[] 3) = W at *
  go_loopw [3, 4] (fun al i wr => ∃ k : Nat, k ≤ xs.length ∧ i = .int .i64 k ∧ Row w.heap.size 3 1 wr al ((((xs.map Ht.k).take k).flatMap HK.runners).map ints) ∧ Hid (GoodTo (xs.map Ht.k) k) ∧ Below w.heap.size w wr)
    (fun _ i _ => xs.length - (intOf i).toNat)
  case atStart => exact ⟨0, Nat.zero_le _, rfl, by simpa using HR0.out, goodTo_zero _, HB0.out⟩
  case round =>
    obtain ⟨k, hkl, rfl, hrow, HG, hb⟩ := hrel
    by_cases hlt : k < xs.length
    · obtain ⟨b, off, rfl, hat⟩ := flat_at hk (by omega)
      have hr := rangeAt_below (hat k hlt) hb
      have hin := (HI.out _ (List.getElem_mem hlt)).below hb
      have hlk : k < (xs.map Ht.k).length := by simp; omega
      have hxk : (xs.map Ht.k)[k] = xs[k].k := by simp
      obtain ⟨p, hp⟩ : ∃ p, p = xs[k] := ⟨_, rfl⟩
      have HXK := Lib.hid (show (xs.map Ht.k)[k] = p.k by rw [hp]; exact hxk)
      rw [← hp] at hr hin
      clear hp hxk hat hk
      have HLE := Lib.hid (show w.heap.size ≤ wr.heap.size from hb.size)
      have HH := Lib.hid (l18One_any p _ hin)
      cases hg : goodH p.k with
      | false =>
        have HF := Lib.hid (goodR_heat hlk (by rw [HXK.out]; exact hg))
        rw [hg] at HH
        clear hg
        go_wp2_with (first
          | ((with_reducible refine at_load_ 28 ?_); refine Ht.loadImpl rfl _ rfl b (off + k * 2) rfl p hr ?_)
          | (go_at_call 51; refine HH.out.mono ?_; rintro e w2 ⟨rfl, hb2⟩))
        go_ret
        exact ⟨ret_bool HF.out.symm, step_ hb (Nat.le_refl _) hb2⟩
      | true =>
        have HN := Lib.hid (show ((((xs.map Ht.k).take k).flatMap HK.runners).map ints).length + p.n ≤ 2147483648 by
          have h1 := goodTo_len HG.out
          have h2 := (goodH_iff.1 hg).1.2
          have h3 := hin.len.1
          rw [List.length_map]; omega)
        have HS := Lib.hid (fun ht => goodTo_succ hlk HG.out (by rw [HXK.out]; exact hg) ht)
        have HTW := Lib.hid (fun ht => goodR_twice (ks := xs.map Ht.k) hlk ht)
        rw [HXK.out] at HS HTW
        have HFS := Lib.hid (show ((xs.map Ht.k).take (k + 1)).flatMap HK.runners = ((xs.map Ht.k).take k).flatMap HK.runners ++ p.k.runners by rw [flat_succ hlk, HXK.out])
        have HND := Lib.hid (good_runners (goodH_iff.1 hg))
        rw [hg] at HH
        clear hg
        go_wp2_with (first
          | ((with_reducible refine at_load_ 28 ?_); refine Ht.loadImpl rfl _ rfl b (off + k * 2) rfl p hr ?_)
          | (go_at_call 51; refine HH.out.mono ?_; rintro e w2 ⟨rfl, hb2⟩))
        have hrow2 := hrow.below hb2
        have hr2 := Ht.cells (rangeAt_below hr hb2)
        obtain ⟨hc0, _⟩ := hr2
        have hin2 := hin.below hb2
        have HBA := Lib.hid (step_ hb (Nat.le_refl _) hb2)
        have HLE2 := Lib.hid (show w.heap.size ≤ w2.heap.size from HBA.out.size)
        have HS2 := Lib.hid (Src.of_sl hin2.1 (fun _ => rfl) (fun x => ints_one x))
        obtain ⟨A1, c1, hv1, hcA, hmA, hkA⟩ := hin2.1.open_
        simp only [Value.slice.injEq] at hv1
        have HL1 := Lib.hid (fun (n : Int) => l1Has_any _ _ n _ (Sl.of_flat hrow2))
        obtain ⟨rs, hrs⟩ : ∃ rs, rs = p.k.runners := ⟨_, rfl⟩
        obtain ⟨sn, hsn⟩ : ∃ sn, sn = ((xs.map Ht.k).take k).flatMap HK.runners := ⟨_, rfl⟩
        have HSN := Lib.hid (show sn.Nodup by rw [hsn]; exact HG.out.2)
        rw [← hrs] at hv1 hcA hkA HS2 HS HTW HFS HND
        rw [← hsn] at hrow2 HL1 HN HS HTW HFS
        obtain ⟨e1, e2, e3⟩ := hv1
        rw [e1] at hc0 HS2
        rw [e2] at hc0 HS2 HN
        rw [e3] at hc0
        clear e1 e2 e3 hrs hsn hin2 HG
        go_loop [5] (fun i => ∃ j : Nat, j ≤ rs.length ∧ i = .int .i64 j ∧ Hid (∀ q (h : q < rs.length), q < j → sn.any (fun y => rs[q] == y) = false))
          (fun i => rs.length - (intOf i).toNat)
        case atStart => exact ⟨0, Nat.zero_le _, rfl, fun q h hq => absurd hq (by omega)⟩
        case round =>
          obtain ⟨j, hjl, rfl, HJ⟩ := hrel
          by_cases hjt : j < rs.length
          · obtain ⟨a, oa, rfl, hatA⟩ := flat_at hkA (by omega)
            have hcr := int_at (hatA j hjt)
            rw [Nat.mul_one] at hcr
            have HC := Lib.hid (HL1.out rs[j])
            cases hq : sn.any (fun y => rs[j] == y) with
            | true =>
              have HF := Lib.hid (HTW.out (twice_seen hjt hq))
              rw [hq] at HC
              clear hq hatA hkA
              go_wp2_with (go_at_call 81; refine HC.out.mono ?_; rintro e w' ⟨rfl, rfl⟩)
              go_ret
              exact ⟨ret_bool HF.out.symm, HBA.out⟩
            | false =>
              have HQ := Lib.hid hq
              rw [hq] at HC
              clear hq hatA hkA
              go_wp2_with (go_at_call 81; refine HC.out.mono ?_; rintro e w' ⟨rfl, rfl⟩)
              go_round
              case rel => exact ⟨j + 1, by omega, by go_num, fun q hq hqj => by
                by_cases e : q < j
                · exact HJ.out q hq e
                · obtain rfl : q = j := by omega
                  exact HQ.out⟩
              case measure => simp [intOf]; omega
          · obtain rfl : j = rs.length := by omega
            have HG2 := Lib.hid (HS.out (twice_unseen HSN.out HND.out fun q hq => HJ.out q hq hq))
            go_wp2_with (at_builtin; refine tyInt.append rfl _ _ rfl w.heap.size _ _ rfl hrow2 _ _ _ (rs.map ints) rfl HS2.out HN.out HLE2.out ?_; intro r w3 row3 hg3 _; rw [← List.map_append] at row3)
            rw [← HFS.out] at row3
            have HBB := Lib.hid (HBA.out.grown hg3 HLE2.out (fun q hq => (hrow2.lt q hq).1))
            go_roundw
            case rel => exact ⟨k + 1, by omega, by go_num, row3, HG2.out, HBB.out⟩
            case measure => simp [intOf]; omega
    · go_wp2_with (go_at_call 57; refine (l1In_any _ _ _ _).mono ?_; rintro e w' ⟨rfl, rfl⟩)
      go_ret
      obtain rfl : k = xs.length := by omega
      have h1 := goodR_end (ks := xs.map Ht.k) (by rw [List.length_map]; exact HG.out)
      refine ⟨ret_bool ?_, hb⟩
      rw [h1, List.length_map, Bool.eq_iff_iff]
      simp [inB]
      try omega
end Go.Proofs.Ytabgmbmaakglkaa
