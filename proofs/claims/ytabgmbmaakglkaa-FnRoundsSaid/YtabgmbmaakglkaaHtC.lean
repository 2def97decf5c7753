/- The walks of the tests on rounds. No condition. -/
import Derived.Test.YtabgmbmaakglkaaHtB
namespace Go.Proofs.Ytabgmbmaakglkaa
open Go Go.RowKit

set_option maxRecDepth 100000 in
set_option maxHeartbeats 4000000 in
theorem IsRound_any (xs : List Ht) (v : Value) (w : World) (h : HtS w v xs) (hl : xs.length ≤ 1048577) : Calls Try.prog 49 #[v] w fun e w' => e = .returned (.bool (goodR (xs.map Ht.k))) ∧ Below w.heap.size w w' := by
  obtain ⟨A, c, rfl, hc, hm, hk⟩ := h.1.open_
  have HI := Lib.hid h.2
  clear h
  go_enter Try.func49, Try.ntmps49
  go_wp2
  have HB0 := Lib.hid (below_alloc (Below.refl w.heap.size w) (.cells #[] 3))
  have HR0 := Lib.hid (Row.lit_nil w 3 1 (Nat.le_refl w.heap.size))
  generalize w.alloc (.cells #[] 3) = W at *
  go_loopw [3, 9] (fun al i wr => ∃ k : Nat, k ≤ xs.length ∧ i = .int .i64 k ∧ Row w.heap.size 3 1 wr al ((((xs.map Ht.k).take k).flatMap HK.runners).map ints) ∧ Hid (GoodTo (xs.map Ht.k) k) ∧ Below w.heap.size w wr)
    (fun _ i _ => xs.length - (intOf i).toNat)
  case atStart => exact ⟨0, Nat.zero_le _, rfl, by simpa using HR0.out, goodTo_zero _, HB0.out⟩
  case round =>
    obtain ⟨k, hkl, rfl, hrow, HG, hb⟩ := hrel
    by_cases hlt : k < xs.length
    · obtain ⟨b, off, rfl, hat⟩ := flat_at hk (by omega)
      have hr := rangeAt_below (hat k hlt) hb
      have hin := (HI.out _ (List.getElem_mem hlt)).below hb
      have hlk : k < (xs.map Ht.k).length := by simp; omega
      have hxk : (xs.map Ht.k)[k] = xs[k].k := by simp
      obtain ⟨p, hp⟩ : ∃ p, p = xs[k] := ⟨_, rfl⟩
      have HXK := Lib.hid (show (xs.map Ht.k)[k] = p.k by rw [hp]; exact hxk)
      rw [← hp] at hr hin
      clear hp hxk hat hk
      have HLE := Lib.hid (show w.heap.size ≤ wr.heap.size from hb.size)
      have hW1 : Below wr.heap.size wr (wr.alloc (.cells #[.slice p.a p.n p.c, .slice p.b p.m p.d] 28)) := below_alloc (Below.refl _ _) _
      have HH := Lib.hid (IsHeat_any p _ (hin.below hW1))
      have HCN := Lib.hid (Ht.cellsNew wr p 28)
      have HW1 := Lib.hid hW1
      clear hW1
      cases hg : goodH p.k with
      | false =>
        have HF := Lib.hid (goodR_heat hlk (by rw [HXK.out]; exact hg))
        rw [hg] at HH
        clear hg
        go_wp2_with (first
          | ((with_reducible refine at_load_ 28 ?_); refine Ht.loadImpl rfl _ rfl b (off + k * 2) rfl p hr ?_)
          | (go_at_call 37; refine HH.out.mono ?_; rintro e w2 ⟨rfl, hb2⟩))
        go_ret
        exact ⟨ret_bool HF.out.symm, step_ hb (Nat.le_refl _) (step_ HW1.out (Nat.le_refl _) hb2)⟩
      | true =>
        have HN := Lib.hid (show ((((xs.map Ht.k).take k).flatMap HK.runners).map ints).length + p.n ≤ 2147483648 by
          have h1 := goodTo_len HG.out
          have h2 := (goodH_iff.1 hg).1.2
          have h3 := hin.len.1
          rw [List.length_map]; omega)
        have HS := Lib.hid (fun ht => goodTo_succ hlk HG.out (by rw [HXK.out]; exact hg) ht)
        have HTW := Lib.hid (fun ht => goodR_twice (ks := xs.map Ht.k) hlk ht)
        rw [HXK.out] at HS HTW
        have HFS := Lib.hid (show ((xs.map Ht.k).take (k + 1)).flatMap HK.runners = ((xs.map Ht.k).take k).flatMap HK.runners ++ p.k.runners by rw [flat_succ hlk, HXK.out])
        rw [hg] at HH
        clear hg
        cases ht : twice (((xs.map Ht.k).take k).flatMap HK.runners ++ p.k.runners) with
        | true =>
          have HF := Lib.hid (HTW.out ht)
          go_wp2_with (first
            | ((with_reducible refine at_load_ 28 ?_); refine Ht.loadImpl rfl _ rfl b (off + k * 2) rfl p hr ?_)
            | (go_at_call 37; refine HH.out.mono ?_; rintro e w2 ⟨rfl, hb2⟩; have hcn := (HCN.out ⟨w2, hb2⟩).1; have HBA := Lib.hid (step_ HW1.out (Nat.le_refl _) hb2); have hrow2 := hrow.below HBA.out; have HS2 := Lib.hid (Src.of_sl ((hin.below HBA.out).1) (fun _ => rfl) (fun x => ints_one x)); have HLE2 := Lib.hid (Nat.le_trans HLE.out HBA.out.size))
            | (at_builtin; refine tyInt.append rfl _ _ rfl w.heap.size _ _ rfl hrow2 _ _ _ (p.k.runners.map ints) rfl HS2.out HN.out HLE2.out ?_; intro r w3 row3 hg3 _; rw [← List.map_append] at row3; have HT := Lib.hid (hasTwice_any _ _ _ (Sl.of_flat row3)))
            | (go_at_call 69; refine HT.out.mono ?_; rintro e w' ⟨rfl, rfl⟩))
          go_ret
          exact ⟨ret_bool HF.out.symm, (step_ hb (Nat.le_refl _) HBA.out).grown hg3 HLE2.out (fun q hq => (hrow2.lt q hq).1)⟩
        | false =>
          have HG2 := Lib.hid (HS.out ht)
          go_wp2_with (first
            | ((with_reducible refine at_load_ 28 ?_); refine Ht.loadImpl rfl _ rfl b (off + k * 2) rfl p hr ?_)
            | (go_at_call 37; refine HH.out.mono ?_; rintro e w2 ⟨rfl, hb2⟩; have hcn := (HCN.out ⟨w2, hb2⟩).1; have HBA := Lib.hid (step_ HW1.out (Nat.le_refl _) hb2); have hrow2 := hrow.below HBA.out; have HS2 := Lib.hid (Src.of_sl ((hin.below HBA.out).1) (fun _ => rfl) (fun x => ints_one x)); have HLE2 := Lib.hid (Nat.le_trans HLE.out HBA.out.size))
            | (at_builtin; refine tyInt.append rfl _ _ rfl w.heap.size _ _ rfl hrow2 _ _ _ (p.k.runners.map ints) rfl HS2.out HN.out HLE2.out ?_; intro r w3 row3 hg3 _; rw [← List.map_append] at row3; have HT := Lib.hid (hasTwice_any _ _ _ (Sl.of_flat row3)))
            | (go_at_call 69; refine HT.out.mono ?_; rintro e w' ⟨rfl, rfl⟩))
          rw [← HFS.out] at row3
          have HBB := Lib.hid ((step_ hb (Nat.le_refl _) HBA.out).grown hg3 HLE2.out (fun q hq => (hrow2.lt q hq).1))
          go_roundw
          case rel => exact ⟨k + 1, by omega, by go_num, row3, HG2.out, HBB.out⟩
          case measure => simp [intOf]; omega
    · go_wp2_with (go_at_call 59; refine (inside_any _ _ _ _).mono ?_; rintro e w' ⟨rfl, rfl⟩)
      go_ret
      obtain rfl : k = xs.length := by omega
      have h1 := goodR_end (ks := xs.map Ht.k) (by rw [List.length_map]; exact HG.out)
      refine ⟨ret_bool ?_, hb⟩
      rw [h1, List.length_map, Bool.eq_iff_iff]
      simp [inB]
      try omega
end Go.Proofs.Ytabgmbmaakglkaa
