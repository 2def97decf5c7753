/- The walks of SeedHeats (reference and program) and the draw of its arguments. No condition. -/
import Derived.Test.YtabgmbmaakglkaaRdA
import Derived.Test.YtabgmbmaakglkaaHtB
import Derived.Deep.RegionLaw
import Derived.Deep.DeepCutAuto
import Derived.Test.YtabgmbmaakglkaaHtA
import Derived.Test.YtabgmbmaakglkaaIntE
import Derived.Deep.CutBlock
import Derived.Test.YtabgmbmaakglkaaDrHd
import Derived.Test.YtabgmbmaakglkaaHtF
namespace Go.Proofs.Ytabgmbmaakglkaa
open Go Go.RowKit

set_option maxRecDepth 100000 in
set_option maxHeartbeats 8000000 in
theorem spec_SeedHeats (xs : List Int) (v : Value) (q : Int) (w : World) (h : Sl (Flat ints) 1 w v xs) :
    Calls Try.prog 45 #[v, .int .i64 q] w fun e w' => ∃ r zs, e = .returned (.tuple #[r, .bool (seedB xs q)]) ∧ zs.map IL.k = seedV xs q ∧ ILR w.heap.size w' r zs ∧ Below w.heap.size w w' := by
  have HNO := Lib.hid (fun (g : seedB xs q = false) => seedV_no g)
  have h' := h
  obtain ⟨A, c, rfl, hc, hm, hk⟩ := h'.open_
  have HFR := Lib.hid (fun (k : Nat) (hk : k ≤ xs.length) => Sl.front h hk)
  clear h h'
  cases g1 : inB q 1 4 with
  | false =>
    have HS := Lib.hid (seedB_q (rs := xs) g1)
    have HG1 := Lib.hid (fun W => l1In_is q 1 4 _ g1 W)
    have HG2 := HG1
    clear g1
    rw [HS.out, HNO.out HS.out]
    have HL := Lib.hid (ILR.lit (base := w.heap.size) (w := w) rfl (Nat.le_refl _))
    clear HNO
    go_enter Try.func45, Try.ntmps45
    go_wp2_with (first | (go_at_call 57; with_reducible refine Calls.mono (HG1.out _) ?_; rintro e w' ⟨rfl, rfl⟩) | (go_at_call 57; with_reducible refine Calls.mono (HG2.out _) ?_; rintro e w' ⟨rfl, rfl⟩))
    go_ret2
    exact ⟨_, [], rfl, rfl, HL.out, below_alloc (Below.refl _ _) _⟩
  | true =>
    have hq := inB_iff.1 g1
    obtain ⟨H, rfl⟩ : ∃ H : Nat, q = (H : Int) := ⟨q.toNat, by omega⟩
    have HG1 := Lib.hid (fun W => l1In_is (H : Int) 1 4 _ g1 W)
    have hw2 : IntKind.i64.wrap (2 * (H : Int)) = 2 * (H : Int) := by rw [IntKind.wrap_i64]; omega
    have hw6 : IntKind.i64.wrap (6 * (H : Int)) = 6 * (H : Int) := by rw [IntKind.wrap_i64]; omega
    cases g2 : inB (xs.length : Int) (2 * (H : Int)) (6 * (H : Int)) with
    | false =>
      have HS := Lib.hid (seedB_len g2)
      have HG2 := Lib.hid (fun W => l1In_is _ _ _ _ g2 W)
      clear g1 g2
      rw [HS.out, HNO.out HS.out]
      have HL := Lib.hid (ILR.lit (base := w.heap.size) (w := w) rfl (Nat.le_refl _))
      clear HNO
      go_enter Try.func45, Try.ntmps45
      go_wp2_with (first | (go_at_call 57; with_reducible refine Calls.mono (HG1.out _) ?_; rintro e w' ⟨rfl, rfl⟩) | (go_at_call 57; with_reducible refine Calls.mono (HG2.out _) ?_; rintro e w' ⟨rfl, rfl⟩))
      go_ret2
      exact ⟨_, [], rfl, rfl, HL.out, below_alloc (Below.refl _ _) _⟩
    | true =>
      have HG2 := Lib.hid (fun W => l1In_is _ _ _ _ g2 W)
      have hn := inB_iff.1 g2
      have HQ1 := Lib.hid g1
      have HQ2 := Lib.hid g2
      clear g1 g2
      go_enter Try.func45, Try.ntmps45
      go_wp2_with (first
        | (go_at_call 57; with_reducible refine Calls.mono (HG1.out _) ?_; rintro e w' ⟨rfl, rfl⟩)
        | (go_at_call 57; with_reducible refine Calls.mono (HG2.out _) ?_; rintro e w' ⟨rfl, rfl⟩)
        | (at_make; refine tyIL.make rfl _ _ rfl w.heap.size H _ _ rfl rfl rfl rfl (by omega) (Nat.le_refl _) ?_; intro w1 hrow1 hb1 hz1))
      have HR1 := Lib.hid (ILR.made hrow1)
      have HB1 := Lib.hid hb1
      clear hrow1 hb1 hz1 HG1 HG2
      go_loopw [7] (fun i wr => ∃ (k : Nat) (zs : List IL), k ≤ xs.length ∧ i = .int .i64 k ∧ Hid (∀ j (h : j < xs.length), j < k → inB xs[j] 1 999 = true ∧ (xs.take j).any (fun y => xs[j] == y) = false) ∧ Hid (zs.map IL.k = seedTo H xs k) ∧ ILR w.heap.size wr (.slice (some ⟨w.heap.size, 0, none⟩) H H) zs ∧ Below w.heap.size w wr)
        (fun i _ => xs.length - (intOf i).toNat)
      case atStart => exact ⟨0, _, Nat.zero_le _, rfl, fun j h hj => absurd hj (by omega), seedTo_made H xs, HR1.out, HB1.out⟩
      case round =>
        clear HR1 HB1
        obtain ⟨k, zs, hkl, rfl, HS, HZ, hR, hb⟩ := hrel
        by_cases hlt : k < xs.length
        · obtain ⟨b, off, rfl, hat⟩ := flat_at hk (by omega)
          have hcr := After.keep (int_at (rangeAt_below (hat k hlt) hb))
          rw [Nat.mul_one] at hcr
          have HC2 := Lib.hid (fun (s : After wr) => l1Has_any (xs.take k) (.slice (some ⟨b, off, none⟩) k c) xs[k] s.w' ((HFR.out k hkl).below (Flat.keeps _) (step_ hb (Nat.le_refl _) s.hb)))
          have HBD1 := Lib.hid (fun (g : inB xs[k] 1 999 = false) => seedB_num (h := (H : Int)) hlt g)
          have HBD2 := Lib.hid (fun (g : (xs.take k).any (fun y => xs[k] == y) = true) => seedB_again (h := (H : Int)) hlt g)
          have HN := Lib.hid (fun (g : inB xs[k] 1 999 = true) (g2 : (xs.take k).any (fun y => xs[k] == y) = false) => show ∀ j (h : j < xs.length), j < k + 1 → inB xs[j] 1 999 = true ∧ (xs.take j).any (fun y => xs[j] == y) = false from fun j hj hjk => by
            by_cases e : j < k
            · exact HS.out j hj e
            · obtain rfl : j = k := by omega
              exact ⟨g, g2⟩)
          obtain ⟨q2, hq2⟩ : ∃ q, (xs.take k).any (fun y => xs[k] == y) = q := ⟨_, rfl⟩
          rw [hq2] at HC2 HBD2 HN
          obtain ⟨x, hx⟩ : ∃ x, x = xs[k] := ⟨_, rfl⟩
          rw [← hx] at hcr HC2 HBD1 HN
          obtain ⟨q1, hq1⟩ : ∃ q, inB x 1 999 = q := ⟨_, rfl⟩
          rw [hq1] at HBD1 HN
          have HX := Lib.hid hx
          have HG1 := Lib.hid (fun W => l1In_is x 1 999 _ hq1 W)
          clear hat hk HFR HS hq2 hx hq1
          cases q1 with
          | false =>
            have HSB := Lib.hid (HBD1.out rfl)
            have HSV := Lib.hid (HNO.out HSB.out)
            go_wp2
            refine region_after (by kernel_rfl) (by kernel_rfl) ?_
            repeat (any_goals (first | go_big_quiet_step ((first | (go_at_call 57; with_reducible exact Calls.after_same (v := .bool false) _ (HG1.out _))))  | quiet_step ((first | (go_at_call 57; with_reducible exact Calls.after_same (v := .bool false) _ (HG1.out _)))) | (refine wpQuiet_step (fun K hK => ?_); go_simp; split <;> (refine hK _ ?_; clear hK K))))
            all_goals (refine wpQuiet_nil ?_; intro s)
            all_goals go_wp2
            go_ret2
            have hB2 := step_ hb (Nat.le_refl _) s.hb
            exact ⟨.slice (some ⟨s.w'.heap.size, 0, none⟩) 0 0, [], by rw [HSB.out]; rfl, HSV.out.symm, ILR.lit rfl hB2.size, below_alloc hB2 _⟩
          | true =>
            cases q2 with
            | true =>
              have HSB := Lib.hid (HBD2.out rfl)
              have HSV := Lib.hid (HNO.out HSB.out)
              go_wp2
              refine region_after (by kernel_rfl) (by kernel_rfl) ?_
              repeat (any_goals (first | go_big_quiet_step ((first | (go_at_call 57; with_reducible exact Calls.after_same (v := .bool true) _ (HG1.out _)) | (go_at_call 81; with_reducible exact Calls.after_same (v := .bool true) _ (HC2.out _))))  | quiet_step ((first | (go_at_call 57; with_reducible exact Calls.after_same (v := .bool true) _ (HG1.out _)) | (go_at_call 81; with_reducible exact Calls.after_same (v := .bool true) _ (HC2.out _)))) | (refine wpQuiet_step (fun K hK => ?_); go_simp; split <;> (refine hK _ ?_; clear hK K))))
              all_goals (refine wpQuiet_nil ?_; intro s)
              all_goals go_wp2
              go_ret2
              have hB2 := step_ hb (Nat.le_refl _) s.hb
              exact ⟨.slice (some ⟨s.w'.heap.size, 0, none⟩) 0 0, [], by rw [HSB.out]; rfl, HSV.out.symm, ILR.lit rfl hB2.size, below_alloc hB2 _⟩
            | false =>
              go_wp2
              refine region_after (by kernel_rfl) (by kernel_rfl) ?_
              repeat (any_goals (first | go_big_quiet_step ((first | (go_at_call 57; with_reducible exact Calls.after_same (v := .bool true) _ (HG1.out _)) | (go_at_call 81; with_reducible exact Calls.after_same (v := .bool false) _ (HC2.out _))))  | quiet_step ((first | (go_at_call 57; with_reducible exact Calls.after_same (v := .bool true) _ (HG1.out _)) | (go_at_call 81; with_reducible exact Calls.after_same (v := .bool false) _ (HC2.out _)))) | (refine wpQuiet_step (fun K hK => ?_); go_simp; split <;> (refine hK _ ?_; clear hK K))))
              all_goals (refine wpQuiet_nil ?_; intro s)
              go_upto_region 10 with fail
              have hB2 := step_ hb (Nat.le_refl _) s.hb
              have HR2 := Lib.hid (hR.below s.hb)
              have hx2 := hcr s
              have HSP := Lib.hid (snake_spec H (by omega) (by omega) k (by omega))
              have hsl := snake_lt (H := H) (by omega) k
              have HPUT := Lib.hid (fun zz hz => seedTo_put (H := H) (zs := zs) (z := zz) HZ.out hlt hz)
              obtain ⟨ws, hws⟩ : ∃ ws, ws = s.w' := ⟨_, rfl⟩
              rw [← hws] at hB2 HR2 hx2 ⊢
              have HB2 := Lib.hid hB2
              clear hws s hb hR hcr hB2 HC2 HBD1 HBD2 HG1
              obtain ⟨mm, hmm⟩ : ∃ mm : Nat, mm = k % (2 * H) := ⟨_, rfl⟩
              have hmi : ((k : Int) % (2 * (H : Int))) = (mm : Int) := by simp [hmm]
              rw [← hmm] at HSP
              have hml : mm < 2 * H := by rw [hmm]; exact Nat.mod_lt _ (by omega)
              generalize ((k : Int) % (2 * (H : Int))) = mi at hmi ⊢
              subst hmi
              clear hmm
              obtain ⟨sn, hsn⟩ : ∃ sn, sn = snake H k := ⟨_, rfl⟩
              rw [← hsn] at HSP hsl HPUT
              clear hsn
              go_upto_if 54 with fail
              go_cut [8] (fun tv wx => tv = .int .i64 (sn : Int) ∧ ws = wx)
              case first =>
                by_cases hg : H ≤ mm
                · have hs := HSP.out
                  rw [if_pos hg] at hs
                  have hgi : (H : Int) ≤ (mm : Int) := by omega
                  have hwa : IntKind.i64.wrap (2 * (H : Int) - 1) = 2 * (H : Int) - 1 := by rw [IntKind.wrap_i64]; omega
                  have hwb : IntKind.i64.wrap (2 * (H : Int) - 1 - (mm : Int)) = 2 * (H : Int) - 1 - (mm : Int) := by rw [IntKind.wrap_i64]; omega
                  have HE := Lib.hid (show 2 * (H : Int) - 1 - (mm : Int) = (sn : Int) by omega)
                  clear hs
                  go_wp2
                  go_meet
                  exact ⟨by rw [HE.out], rfl⟩
                · have hs := HSP.out
                  rw [if_neg hg] at hs
                  have hgi : ¬ (H : Int) ≤ (mm : Int) := by omega
                  have HE := Lib.hid (show (mm : Int) = (sn : Int) by omega)
                  clear hs
                  go_wp2
                  go_meet
                  exact ⟨by rw [HE.out], rfl⟩
              case rest =>
                obtain ⟨rfl, rfl⟩ := hcut
                have HZL := Lib.hid (show zs.length = H by have := congrArg List.length HZ.out; rw [List.length_map, seedTo_len] at this; exact this)
                have hsz : sn < zs.length := by rw [HZL.out]; exact hsl
                have hin := HR2.out.2.1 _ (List.getElem_mem hsz)
                have HPT := Lib.hid (fun zz h => HPUT.out zz hsz h)
                have hout := HR2.out.1.cell (k := sn) (j := 0) (by simpa using hsz) (by omega)
                rw [List.getElem_map, Nat.mul_one, Nat.add_zero] at hout
                have HPR := Lib.hid (fun (w2 w3 : World) (z : IL) (hb : Below ws.heap.size ws w2) => ILR.put (w3 := w3) (z := z) HR2.out hb hsz)
                have HZN := Lib.hid (show zs[sn].k.length ≤ 6 from (lens_ok H (by omega) (by omega) k (by omega) (by omega)).2.2.2.2 _ (by rw [← seedTo_lens H xs k, ← HZ.out]; exact List.mem_map.2 ⟨zs[sn].k, List.mem_map.2 ⟨zs[sn], List.getElem_mem hsz, rfl⟩, rfl⟩))
                obtain ⟨z, hz⟩ : ∃ z, z = zs[sn] := ⟨_, rfl⟩
                rw [← hz] at hin hout HPT HPR HZN
                clear hz HPUT
                obtain ⟨zk, zA, zn, zc⟩ := z
                have hout : ws.cell? ⟨w.heap.size, sn, none⟩ = some (.slice zA zn zc) := hout
                have hrow : Row w.heap.size 3 1 ws (.slice zA zn zc) (zk.map ints) := hin.1
                have HDI := Lib.hid (show Dis (.slice zA zn zc) (.slice (some ⟨w.heap.size, 0, none⟩) H H) from hin.2)
                rw [← HX.out] at HPT
                clear hin
                have hA := below_alloc (Below.refl ws.heap.size ws).drew (.cells #[.int .i64 x] 3)
                have hx3 : ws.drew.cell? ⟨b, off + k, none⟩ = some (.int .i64 x) := After.keep hx2 ⟨_, (Below.refl _ _).drew⟩
                have ho3 : ws.drew.cell? ⟨w.heap.size, sn, none⟩ = some (.slice zA zn zc) := After.keep hout ⟨_, (Below.refl _ _).drew⟩
                have hx4 : (ws.drew.alloc (.cells #[.int .i64 x] 3)).cell? ⟨b, off + k, none⟩ = some (.int .i64 x) := After.keep hx2 ⟨_, hA⟩
                have ho4 : (ws.drew.alloc (.cells #[.int .i64 x] 3)).cell? ⟨w.heap.size, sn, none⟩ = some (.slice zA zn zc) := After.keep hout ⟨_, hA⟩
                have hx5 : (ws.alloc (.cells #[.int .i64 x] 3)).drew.cell? ⟨b, off + k, none⟩ = some (.int .i64 x) := After.keep hx2 ⟨_, (below_alloc (Below.refl ws.heap.size ws) (.cells #[.int .i64 x] 3)).drew⟩
                have ho5 : (ws.alloc (.cells #[.int .i64 x] 3)).drew.cell? ⟨w.heap.size, sn, none⟩ = some (.slice zA zn zc) := After.keep hout ⟨_, (below_alloc (Below.refl ws.heap.size ws) (.cells #[.int .i64 x] 3)).drew⟩
                have hx6 : (ws.alloc (.cells #[.int .i64 x] 3)).cell? ⟨b, off + k, none⟩ = some (.int .i64 x) := After.keep hx2 ⟨_, below_alloc (Below.refl ws.heap.size ws) (.cells #[.int .i64 x] 3)⟩
                have ho6 : (ws.alloc (.cells #[.int .i64 x] 3)).cell? ⟨w.heap.size, sn, none⟩ = some (.slice zA zn zc) := After.keep hout ⟨_, below_alloc (Below.refl ws.heap.size ws) (.cells #[.int .i64 x] 3)⟩
                have HRO := Lib.hid (hrow.drew.alloc (.cells #[.int .i64 x] 3))
                have HSR := Lib.hid (show Src (ws.drew.alloc (.cells #[.int .i64 x] 3)) 1 (some ⟨ws.drew.heap.size, 0, none⟩) 1 [ints x] from Src.lit ws.drew 3 (ints x) ws.drew.heap.size rfl rfl (ints_one _))
                have HZN : Hid (zk.length ≤ 6) := HZN
                have HLL := Lib.hid (show (zk.map ints).length + 1 ≤ 2147483648 by have := HZN.out; simp; omega)
                have HSZ := Lib.hid (show w.heap.size ≤ (ws.drew.alloc (.cells #[.int .i64 x] 3)).heap.size from Nat.le_trans HB2.out.size hA.size)
                have HOU := Lib.hid (HR2.out.1.drew.alloc (.cells #[.int .i64 x] 3))
                have hA' := Lib.hid hA
                have hz0 : (0 : Int) ≤ (sn : Int) := by omega
                have hz1 : (sn : Int) < (H : Int) := by omega
                clear hrow
                go_wp2_with fail
                go_region_law
                  (first
                    | (refine tyInt.stepAppendR (by rfl) _ _ (by rfl) w.heap.size (.slice zA zn zc) _ (by rfl) HRO.out _ 1 1 _ (by rfl) HSR.out HLL.out HSZ.out ?_; intro o4 w4 hrow4 hg4 hat4; obtain ⟨A4, c4, rfl, hc4, hm4⟩ := hrow4.parts; simp only [List.length_append, List.length_map, List.length_singleton] at hrow4 hat4 ⊢; have HO4 := Lib.hid (HOU.out.kept hg4 HDI.out.symm.or); have hk4 := HO4.out.cell (k := sn) (j := 0) (by simpa using hsz) (by omega); have hf4 := HO4.out.frozen sn; rw [List.getElem_map, Nat.mul_one, Nat.add_zero] at hk4; replace hk4 : w4.cell? ⟨w.heap.size, sn, none⟩ = some zs[sn].sv := hk4))
                all_goals
                  have hP := HPR.out (ws.drew.alloc (.cells #[.int .i64 x] 3)) w4 ⟨zk ++ [x], A4, zk.length + 1, c4⟩ hA'.out (by rw [List.map_append]; exact hrow4) hg4 hat4
                  have HP4 := Lib.hid hP
                  have HB4 := Lib.hid (((step_ HB2.out (Nat.le_refl _) hA'.out).grown hg4 HSZ.out (fun q hq => (HRO.out.lt q hq).1)).setCell (p := ⟨w.heap.size, sn, none⟩) (by simp) (.slice A4 (zk.length + 1) c4))
                  have HZ4 := Lib.hid (HPT.out ⟨zk ++ [x], A4, zk.length + 1, c4⟩ rfl)
                  have HS4 := Lib.hid (HN.out (by first | rfl | trivial) (by first | rfl | trivial))
                  clear hP hk4 hf4 hrow4 hg4 hat4 HO4 hx2 hx3 hx4 hx5 hx6 ho3 ho4 ho5 ho6 hout
                  go_wp2
                  go_roundw
                  case rel => exact ⟨k + 1, zs.set sn ⟨zk ++ [x], A4, zk.length + 1, c4⟩, by omega, by go_num, HS4.out, HZ4.out, HP4.out, HB4.out⟩
                  case measure => simp [intOf]; omega
        · obtain rfl : k = xs.length := by omega
          have HSB := Lib.hid (seedB_yes HQ1.out HQ2.out (fun i hi => HS.out i hi hi))
          have HSV := Lib.hid (seedV_yes HSB.out)
          go_wp2
          go_ret2
          exact ⟨.slice (some ⟨w.heap.size, 0, none⟩) H H, zs, by rw [HSB.out]; rfl, by rw [HSV.out]; simpa using HZ.out, hR, hb⟩
end Go.Proofs.Ytabgmbmaakglkaa
namespace Go.Proofs.Ytabgmbmaakglkaa
open Go Go.RowKit

set_option maxHeartbeats 1000000 in
theorem indexFunc_80 (pr : IntE → Bool) (ps : List IntE) (v : Value) (w : World) (h : Sl (Flat IntE.lst) 1 w v ps)
    (hf : ∀ s : After w, ∀ k (hk : k < ps.length), Calls Try.prog 80 #[ps[k].val] s.w' fun e w' => e = .returned (.bool (pr ps[k])) ∧ Below s.w'.heap.size s.w' w') :
    Calls Try.prog 91 #[v, .func (.func 80) #[] #[]] w fun e w' => e = .returned (.int .i64 (idxA pr ps)) ∧ Below w.heap.size w w' := by
  obtain ⟨A, c, rfl, hc, hm, hk⟩ := h.open_
  have HF := Lib.hid hf
  clear hf
  go_enter Try.func91, Try.ntmps91
  go_wp2
  go_loopw [8] (fun i wr => ∃ k : Nat, k ≤ ps.length ∧ i = .int .i64 k ∧ Hid (∀ j (h : j < ps.length), j < k → pr ps[j] = false) ∧ Below w.heap.size w wr)
    (fun i _ => ps.length - (intOf i).toNat)
  case atStart => exact ⟨0, Nat.zero_le _, rfl, fun j h hj => absurd hj (by omega), Below.refl _ _⟩
  case round =>
    obtain ⟨k, hkl, rfl, HS, hb⟩ := hrel
    by_cases hlt : k < ps.length
    · obtain ⟨b, off, rfl, hat⟩ := flat_at hk (by omega)
      have hr := rangeAt_below (hat k hlt) hb
      have hr := int_at hr
      rw [Nat.mul_one] at hr
      clear hat hk h
      go_wp2_with fail
      refine (HF.out ⟨wr, hb⟩ k hlt).mono ?_
      rintro e w2 ⟨rfl, hb2⟩
      have hB := step_ hb (Nat.le_refl _) hb2
      by_cases hp : pr ps[k] = true
      · have HP := Lib.hid hp
        rw [hp]
        clear hp
        go_wp2
        go_ret
        exact ⟨ret_int (idxA_found hlt HP.out HS.out).symm, hB⟩
      · have hp' : pr ps[k] = false := by simpa using hp
        have HP := Lib.hid hp'
        rw [hp']
        clear hp hp'
        go_wp2
        go_roundw
        case rel => exact ⟨k + 1, by omega, by go_num, fun j hj hjk => by
          by_cases e : j < k
          · exact HS.out j hj e
          · obtain rfl : j = k := by omega
            exact HP.out, hB⟩
        case measure => simp [intOf]; omega
    · go_wp2
      go_ret
      obtain rfl : k = ps.length := by omega
      exact ⟨ret_int (idxA_none fun j hj => HS.out j hj hj).symm, hb⟩


theorem containsFunc_80 (pr : IntE → Bool) (ps : List IntE) (v : Value) (w : World) (h : Sl (Flat IntE.lst) 1 w v ps)
    (hf : ∀ s : After w, ∀ k (hk : k < ps.length), Calls Try.prog 80 #[ps[k].val] s.w' fun e w' => e = .returned (.bool (pr ps[k])) ∧ Below s.w'.heap.size s.w' w') :
    Calls Try.prog 79 #[v, .func (.func 80) #[] #[]] w fun e w' => e = .returned (.bool (ps.any pr)) ∧ Below w.heap.size w w' := by
  have HI := Lib.hid (idxA_any pr ps)
  obtain ⟨r, hr⟩ : ∃ r, idxA pr ps = r := ⟨_, rfl⟩
  have hc := indexFunc_80  pr ps v w h hf
  rw [hr] at hc HI
  clear hr
  go_enter Try.func79, Try.ntmps79
  go_wp2_with (go_at_call 91; refine hc.mono ?_; rintro e w1 ⟨rfl, hb1⟩)
  go_ret
  exact ⟨ret_bool HI.out, hb1⟩


theorem seedHeats1_any (c : Int) (w : World) : Calls Try.prog 80 #[.int .i64 c] w fun e w' => e = .returned (.bool (!inB c 1 999)) ∧ Below w.heap.size w w' := by
  go_enter Try.func80, Try.ntmps80
  go_wp2_with (go_at_call 70; refine (isRunnerNumber_any _ _).mono ?_; rintro e w' ⟨rfl, rfl⟩)
  go_ret
  exact ⟨rfl, Below.refl _ _⟩
set_option maxRecDepth 100000 in
set_option maxHeartbeats 8000000 in
theorem impl_SeedHeats (xs : List Int) (v : Value) (q : Int) (w : World) (h : Sl (Flat ints) 1 w v xs) :
    Calls Try.prog 44 #[v, .int .i64 q] w fun e w' => ∃ r zs, e = .returned (.tuple #[r, .bool (seedB xs q)]) ∧ zs.map IL.k = seedV xs q ∧ ILR w.heap.size w' r zs ∧ Below w.heap.size w w' := by
  have HNO := Lib.hid (fun (g : seedB xs q = false) => seedV_no g)
  have HT := Lib.hid (hasTwice_any xs v w h)
  have HA := Lib.hid (containsFunc_80 (fun c => !inB c 1 999) xs v w h (fun s k _ => seedHeats1_any _ s.w'))
  have h' := h
  obtain ⟨A, c, rfl, hc, hm, hk⟩ := h'.open_
  clear h h'
  cases g1 : inB q 1 4 with
  | false =>
    have HS := Lib.hid (seedB_q (rs := xs) g1)
    rw [HS.out, HNO.out HS.out]
    have HG1 := Lib.hid g1
    clear HNO HT HA
    go_enter Try.func44, Try.ntmps44
    go_wp2_with (go_at_call 59; refine (inside_any _ _ _ _).mono ?_; rintro e w'' ⟨rfl, rfl⟩)
    go_ret2
    exact ⟨_, [], rfl, rfl, ILR.nil _ _, Below.refl _ _⟩
  | true =>
    have hq := inB_iff.1 g1
    obtain ⟨H, rfl⟩ : ∃ H : Nat, q = (H : Int) := ⟨q.toNat, by omega⟩
    have hw6 : IntKind.i64.wrap ((H : Int) * 6) = (H : Int) * 6 := by rw [IntKind.wrap_i64]; omega
    by_cases hmo : (H : Int) * 6 < (xs.length : Int)
    · have HS := Lib.hid (seedB_more (rs := xs) hmo)
      rw [HS.out, HNO.out HS.out]
      clear HNO HT HA
      go_enter Try.func44, Try.ntmps44
      go_wp2_with (go_at_call 59; refine (inside_any _ _ _ _).mono ?_; rintro e w'' ⟨rfl, rfl⟩)
      go_ret2
      exact ⟨_, [], rfl, rfl, ILR.nil _ _, Below.refl _ _⟩
    · cases e3 : twice xs with
      | true =>
        have HS := Lib.hid (seedB_twice (rs := xs) (h := (H : Int)) e3)
        rw [HS.out, HNO.out HS.out]
        rw [e3] at HT
        clear HNO HA e3
        go_enter Try.func44, Try.ntmps44
        go_wp2_with (first
          | (go_at_call 59; refine (inside_any _ _ _ _).mono ?_; rintro e w'' ⟨rfl, rfl⟩)
          | (go_at_call 69; refine HT.out.mono ?_; rintro e w' ⟨rfl, rfl⟩))
        go_ret2
        exact ⟨_, [], rfl, rfl, ILR.nil _ _, Below.refl _ _⟩
      | false =>
        rw [e3] at HT
        have E3 := Lib.hid e3
        clear e3
        cases e4 : (xs.any fun n => !inB n 1 999) with
        | true =>
          have HS := Lib.hid (seedB_any (rs := xs) (h := (H : Int)) e4)
          rw [HS.out, HNO.out HS.out]
          rw [e4] at HA
          clear HNO e4
          go_enter Try.func44, Try.ntmps44
          go_wp2_with (first
            | (go_at_call 59; refine (inside_any _ _ _ _).mono ?_; rintro e w'' ⟨rfl, rfl⟩)
            | (go_at_call 69; refine HT.out.mono ?_; rintro e w' ⟨rfl, rfl⟩)
            | (go_at_call 79; refine HA.out.mono ?_; rintro e w1 ⟨rfl, hb1⟩))
          go_ret2
          exact ⟨_, [], rfl, rfl, ILR.nil _ _, hb1⟩
        | false =>
          rw [e4] at HA
          have hnl : xs.length ≤ 6 * H := by omega
          have HYES := Lib.hid (fun (zs : List IL) => seedE_yes (zs := zs) g1 hnl E3.out e4)
          have HBAD := Lib.hid (fun (zs : List IL) => seedE_no (xs := xs) (zs := zs) g1 hnl)
          have HSV := Lib.hid (fun (g : seedB xs (H : Int) = true) => seedV_yes g)
          clear e4
          go_enter Try.func44, Try.ntmps44
          go_wp2_with (first
            | (go_at_call 59; refine (inside_any _ _ _ _).mono ?_; rintro e w'' ⟨rfl, rfl⟩)
            | (go_at_call 69; refine HT.out.mono ?_; rintro e w' ⟨rfl, rfl⟩)
            | (go_at_call 79; refine HA.out.mono ?_; rintro e w1 ⟨rfl, hb1⟩)
            | (at_make; refine tyIL.make rfl _ _ rfl w.heap.size H _ _ rfl rfl rfl rfl (by omega) hb1.size ?_; intro w2 hrow2 hb2 hz2))
          have HR1 := Lib.hid (ILR.made hrow2)
          have HB1 := Lib.hid (step_ hb1 (Nat.le_refl _) hb2)
          obtain ⟨G, hG⟩ : ∃ G, G = w1.heap.size := ⟨_, rfl⟩
          rw [← hG] at HR1 ⊢
          clear hrow2 hb2 hz2 hb1 HT HA hG g1
          go_loopw [34] (fun i wr => ∃ (k : Nat) (zs : List IL), k ≤ xs.length ∧ i = .int .i64 k ∧ Hid (zs.map IL.k = seedTo H xs k) ∧ ILR w.heap.size wr (.slice (some ⟨G, 0, none⟩) H H) zs ∧ Below w.heap.size w wr)
            (fun i _ => xs.length - (intOf i).toNat)
          case atStart => exact ⟨0, _, Nat.zero_le _, rfl, seedTo_made H xs, HR1.out, HB1.out⟩
          case round =>
            clear HR1 HB1
            obtain ⟨k, zs, hkl, rfl, HZ, hR, hb⟩ := hrel
            by_cases hlt : k < xs.length
            · obtain ⟨b, off, rfl, hat⟩ := flat_at hk (by omega)
              have hx2 := int_at (rangeAt_below (hat k hlt) hb)
              rw [Nat.mul_one] at hx2
              have HPUT := Lib.hid (fun zz hz => seedTo_put (H := H) (zs := zs) (z := zz) HZ.out hlt hz)
              have hsl := snake_lt (H := H) (by omega) k
              obtain ⟨x, hx⟩ : ∃ x, x = xs[k] := ⟨_, rfl⟩
              rw [← hx] at hx2
              have HX := Lib.hid hx
              clear hat hk hx
              obtain ⟨sn, hsn⟩ : ∃ sn, sn = snake H k := ⟨_, rfl⟩
              rw [← hsn] at hsl HPUT
              have HSN := Lib.hid (show sn = if k / H % 2 = 1 then H - 1 - k % H else k % H from hsn)
              clear hsn
              obtain ⟨dd, hdd⟩ : ∃ dd : Nat, dd = k / H := ⟨_, rfl⟩
              have hdi : ((k : Int) / (H : Int)) = (dd : Int) := by simp [hdd]
              have hwq : IntKind.i64.wrap ((k : Int) / (H : Int)) = (dd : Int) := by
                have : dd ≤ k := by rw [hdd]; exact Nat.div_le_self _ _
                rw [hdi, IntKind.wrap_i64]; omega
              obtain ⟨rr, hrr⟩ : ∃ rr : Nat, rr = dd % 2 := ⟨_, rfl⟩
              have hri : ((dd : Int) % 2) = (rr : Int) := by simp [hrr]
              have hr2 : rr < 2 := by rw [hrr]; exact Nat.mod_lt _ (by omega)
              rw [← hdd, ← hrr] at HSN
              obtain ⟨mm, hmm⟩ : ∃ mm : Nat, mm = k % H := ⟨_, rfl⟩
              have hmi : ((k : Int) % (H : Int)) = (mm : Int) := by simp [hmm]
              have hml : mm < H := by rw [hmm]; exact Nat.mod_lt _ (by omega)
              rw [← hmm] at HSN
              have hd0 : (0 : Int) ≤ (dd : Int) := by omega
              clear hdd hdi hrr hmm
              go_upto_if 46 with fail
              generalize ((k : Int) % (H : Int)) = mi at hmi ⊢
              subst hmi
              clear hwq hd0
              go_cut [9] (fun tv wx => tv = .int .i64 (sn : Int) ∧ wr = wx)
              case first =>
                have hr01 : rr = 0 ∨ rr = 1 := by omega
                rcases hr01 with rfl | rfl
                · have HE := Lib.hid (show (mm : Int) = (sn : Int) by have hs := HSN.out; simp at hs; omega)
                  clear hri
                  go_wp2
                  go_meet
                  exact ⟨by rw [HE.out], rfl⟩
                · have HE := Lib.hid (show (H : Int) - 1 - (mm : Int) = (sn : Int) by have hs := HSN.out; simp at hs; omega)
                  have hwa : IntKind.i64.wrap ((H : Int) - 1) = (H : Int) - 1 := by rw [IntKind.wrap_i64]; omega
                  have hwb : IntKind.i64.wrap ((H : Int) - 1 - (mm : Int)) = (H : Int) - 1 - (mm : Int) := by rw [IntKind.wrap_i64]; omega
                  clear hri
                  go_wp2
                  go_meet
                  exact ⟨by rw [HE.out], rfl⟩
              case rest =>
                obtain ⟨rfl, rfl⟩ := hcut
                have HR2 := Lib.hid hR
                have HB2 := Lib.hid hb
                have HZL := Lib.hid (show zs.length = H by have := congrArg List.length HZ.out; rw [List.length_map, seedTo_len] at this; exact this)
                have hsz : sn < zs.length := by rw [HZL.out]; exact hsl
                have hin := hR.2.1 _ (List.getElem_mem hsz)
                have HPT := Lib.hid (fun zz h => HPUT.out zz hsz h)
                have hout := hR.1.cell (k := sn) (j := 0) (by simpa using hsz) (by omega)
                rw [List.getElem_map, Nat.mul_one, Nat.add_zero] at hout
                have HPR := Lib.hid (fun (w2 w3 : World) (z : IL) (hb : Below wr.heap.size wr w2) => ILR.put (w3 := w3) (z := z) HR2.out hb hsz)
                have HZN := Lib.hid (show zs[sn].k.length ≤ 6 from (lens_ok H (by omega) (by omega) k (by omega) (by omega)).2.2.2.2 _ (by rw [← seedTo_lens H xs k, ← HZ.out]; exact List.mem_map.2 ⟨zs[sn].k, List.mem_map.2 ⟨zs[sn], List.getElem_mem hsz, rfl⟩, rfl⟩))
                obtain ⟨z, hz⟩ : ∃ z, z = zs[sn] := ⟨_, rfl⟩
                rw [← hz] at hin hout HPT HPR HZN
                clear hz HPUT hR hb
                obtain ⟨zk, zA, zn, zc⟩ := z
                replace hout : wr.cell? ⟨G, sn, none⟩ = some (.slice zA zn zc) := hout
                have hrow : Row w.heap.size 3 1 wr (.slice zA zn zc) (zk.map ints) := hin.1
                have HDI := Lib.hid (show Dis (.slice zA zn zc) (.slice (some ⟨G, 0, none⟩) H H) from hin.2)
                rw [← HX.out] at HPT
                have HZN : Hid (zk.length ≤ 6) := HZN
                have hA := below_alloc (Below.refl wr.heap.size wr) (.cells #[.int .i64 x] 3)
                have HRO := Lib.hid (hrow.alloc (.cells #[.int .i64 x] 3))
                have HSR := Lib.hid (show Src (wr.alloc (.cells #[.int .i64 x] 3)) 1 (some ⟨wr.heap.size, 0, none⟩) 1 [ints x] from Src.lit wr 3 (ints x) wr.heap.size rfl rfl (ints_one _))
                have HLL := Lib.hid (show (zk.map ints).length + 1 ≤ 2147483648 by have := HZN.out; simp; omega)
                have HSZ := Lib.hid (show w.heap.size ≤ (wr.alloc (.cells #[.int .i64 x] 3)).heap.size from Nat.le_trans HB2.out.size hA.size)
                have HOU := Lib.hid (HR2.out.1.alloc (.cells #[.int .i64 x] 3))
                have hGb : w.heap.size ≤ G := (HR2.out.1.lt G rfl).1
                have hA' := Lib.hid hA
                have hz0 : (0 : Int) ≤ (sn : Int) := by omega
                have hz1 : (sn : Int) < (H : Int) := by omega
                clear hrow hA hin HZN
                go_wp2_with (at_builtin; refine tyInt.append rfl _ _ rfl w.heap.size (.slice zA zn zc) _ rfl HRO.out _ 1 1 [ints x] rfl HSR.out HLL.out HSZ.out ?_; intro o4 w4 hrow4 hg4 hat4; obtain ⟨A4, c4, rfl, hc4, hm4⟩ := hrow4.parts; simp only [List.length_append, List.length_map, List.length_singleton] at hrow4 hat4 ⊢; have HO4 := Lib.hid (HOU.out.kept hg4 HDI.out.symm.or); have hk4 := HO4.out.cell (k := sn) (j := 0) (by simpa using hsz) (by omega); have hf4 := HO4.out.frozen sn; rw [List.getElem_map, Nat.mul_one, Nat.add_zero] at hk4; replace hk4 : w4.cell? ⟨G, sn, none⟩ = some zs[sn].sv := hk4)
                have hP := HPR.out (wr.alloc (.cells #[.int .i64 x] 3)) w4 ⟨zk ++ [x], A4, zk.length + 1, c4⟩ hA'.out (by rw [List.map_append]; exact hrow4) hg4 hat4
                have HP4 := Lib.hid hP
                have HB4 := Lib.hid (((step_ HB2.out (Nat.le_refl _) hA'.out).grown hg4 HSZ.out (fun q hq => (HRO.out.lt q hq).1)).setCell (p := ⟨G, sn, none⟩) hGb (.slice A4 (zk.length + 1) c4))
                have HZ4 := Lib.hid (HPT.out ⟨zk ++ [x], A4, zk.length + 1, c4⟩ rfl)
                clear hP hk4 hf4 hrow4 hg4 hat4 HO4 hx2 hout
                go_roundw
                case rel => exact ⟨k + 1, zs.set sn ⟨zk ++ [x], A4, zk.length + 1, c4⟩, by omega, by go_num, HZ4.out, HP4.out, HB4.out⟩
                case measure => simp [intOf]; omega
            · obtain rfl : k = xs.length := by omega
              have HZL := Lib.hid (show zs.length = H by have := congrArg List.length HZ.out; rw [List.length_map, seedTo_len] at this; exact this)
              have HR2 := Lib.hid hR
              have HB2 := Lib.hid hb
              have HY := Lib.hid (HYES.out zs HZ.out)
              have HN := Lib.hid (fun (j : Nat) (hj : j < zs.length) g => HBAD.out zs HZ.out (j := j) hj g)
              have HZ' := Lib.hid (show zs.map IL.k = seedTo (H : Int).toNat xs xs.length by rw [Int.toNat_natCast]; exact HZ.out)
              clear HYES HBAD hR hb hk HZ
              go_wp2_with fail
              go_loop [64] (fun i => ∃ k : Nat, k ≤ H ∧ i = .int .i64 k ∧ Hid (∀ j (h : j < zs.length), j < k → inB (zs[j].k.length : Int) 2 6 = true))
                (fun i => H - (intOf i).toNat)
              case atStart => exact ⟨0, Nat.zero_le _, rfl, fun j h hj => absurd hj (by omega)⟩
              case round =>
                obtain ⟨j, hjl, rfl, HS⟩ := hrel
                by_cases hjt : j < H
                · have hjz : j < zs.length := by rw [HZL.out]; exact hjt
                  have hout := HR2.out.1.cell (k := j) (j := 0) (by simpa using hjz) (by omega)
                  rw [List.getElem_map, Nat.mul_one, Nat.add_zero] at hout
                  have hlen := Row.none_len (HR2.out.2.1 _ (List.getElem_mem hjz)).1
                  rw [List.length_map] at hlen
                  have HNJ := Lib.hid (HN.out j hjz)
                  have HSN := Lib.hid (fun (g : inB (zs[j].k.length : Int) 2 6 = true) => show ∀ i (h : i < zs.length), i < j + 1 → inB (zs[i].k.length : Int) 2 6 = true from fun i hi hij => by
                    by_cases e : i < j
                    · exact HS.out i hi e
                    · obtain rfl : i = j := by omega
                      exact g)
                  rw [← hlen] at HNJ HSN
                  replace hout : wr.cell? ⟨G, j, none⟩ = some (.slice zs[j].a zs[j].n zs[j].c) := hout
                  generalize zs[j].a = zA at hout
                  generalize zs[j].c = zc at hout
                  generalize zs[j].n = zn at hout HNJ HSN
                  have hz0 : (0 : Int) ≤ (j : Int) := by omega
                  have hz1 : (j : Int) < (H : Int) := by omega
                  clear hlen
                  cases g5 : inB (zn : Int) 2 6 with
                  | false =>
                    have HSB := Lib.hid (HNJ.out g5)
                    have HSV0 := Lib.hid (HNO.out HSB.out)
                    go_wp2_with (go_at_call 59; refine (inside_any _ _ _ _).mono ?_; rintro e w'' ⟨rfl, rfl⟩)
                    go_ret2
                    exact ⟨_, [], by rw [HSB.out]; rfl, by rw [HSV0.out]; rfl, ILR.nil _ _, HB2.out⟩
                  | true =>
                    have HSN2 := Lib.hid (HSN.out g5)
                    go_wp2_with (go_at_call 59; refine (inside_any _ _ _ _).mono ?_; rintro e w'' ⟨rfl, rfl⟩)
                    go_round
                    case rel => exact ⟨j + 1, by omega, by go_num, HSN2.out⟩
                    case measure => simp [intOf]; omega
                · obtain rfl : j = H := by omega
                  have HSB := Lib.hid (HY.out (fun i hi => HS.out i hi (by rw [HZL.out] at hi; exact hi)))
                  have HSV1 := Lib.hid (HSV.out HSB.out)
                  go_wp2
                  go_ret2
                  exact ⟨.slice (some ⟨G, 0, none⟩) j j, by rw [HSB.out]; rfl, zs, by rw [HSV1.out]; exact HZ'.out, HR2.out, HB2.out⟩
end Go.Proofs.Ytabgmbmaakglkaa
namespace Go.Proofs.Ytabgmbmaakglkaa
open Go Go.RowKit

set_option maxRecDepth 100000 in
set_option maxHeartbeats 8000000 in
theorem draw_SeedHeats (v : Value) (m : Nat) (w : World) (h : CodeS w v m) :
    Calls Try.prog 43 #[v] w fun e w' => ∃ r xs q, e = .returned (.tuple #[r, .int .i64 q]) ∧ Sl (Flat ints) 1 w' r xs ∧ xs.length ≤ 40 ∧ (0 ≤ q ∧ q ≤ 5) ∧ Below w.heap.size w w' := by
  obtain ⟨CA, ccap, rfl, hcc1, hcc2, hcc3⟩ := h
  have h : CodeS w (.slice CA m ccap) m := ⟨CA, ccap, rfl, hcc1, hcc2, hcc3⟩
  clear hcc1 hcc2 hcc3
  have HD := Lib.hid (Dr.start (Cur.new h w.heap.size rfl))
  have HCS := Lib.hid (show (w.alloc (.cells #[.slice CA m ccap, .int .i64 0, .int .u64 0] 97)).heap.size = w.heap.size + 1 by simp)
  have HBC := Lib.hid (fun W' (hg : (w.alloc (.cells #[.slice CA m ccap, .int .i64 0, .int .u64 0] 97)).grownBy W' (some w.heap.size)) => below_cur hg)
  clear h
  go_enter Try.func43, Try.ntmps43
  go_upto_region 2 with fail
  generalize w.alloc (.cells #[.slice CA m ccap, .int .i64 0, .int .u64 0] 97) = W0 at HD HCS HBC ⊢
  go_wp2_with fail
  obtain ⟨gl, hgl, hcg⟩ : ∃ gl, W0.heap.size = gl ∧ w.heap.size < gl := ⟨_, rfl, by have := HCS.out; omega⟩
  have HLIT := Lib.hid (LitAt.new W0 3 ([1, 2, 3, 4, 0, 5].map (Value.int .i64)) W0.heap.size rfl)
  replace HD := Lib.hid (HD.out.alloc (.cells ([1, 2, 3, 4, 0, 5].map (Value.int .i64)).toArray 3))
  rw [hgl] at HLIT
  refine (pick_dr 24 HD.out (by omega) (by omega) (by omega)).mono ?_
  rintro e w' ⟨y, hy, rfl, hd, hg⟩
  replace HD := Lib.hid hd
  replace HLIT := Lib.hid (HLIT.out.keptC hcg hg)
  clear hd hg
  go_wp2_with fail
  refine (cut_dr [1, 2, 3, 4, 0, 5] 0 5 HD.out gl _ _ HLIT.out rfl _ _ (by omega) (by simp; omega) (by omega) (by omega) (by omega) (by omega) (by simp) (by intro x hx; simp at hx; omega)).mono ?_
  rintro e w' ⟨q, rfl, hq, hd, hg⟩
  replace HD := Lib.hid (hd.alloc (.cells #[] 3))
  have HR := Lib.hid (show Row (w.heap.size + 1) 3 1 (w'.alloc (.cells #[] 3)) (.slice (some ⟨w'.heap.size, 0, none⟩) 0 0) (([] : List Int).map ints) from Row.lit_nil w' 3 1 (by have := hd.size; have := HCS.out; omega))
  clear hd hg HLIT hgl hcg
  go_upto_region 4 with fail
  generalize w'.alloc (.cells #[] 3) = W1 at HD HR ⊢
  generalize w'.heap.size = b6 at HR ⊢
  have hw2 : IntKind.i64.wrap (2 * q) = 2 * q := by rw [IntKind.wrap_i64]; omega
  have hw4 : IntKind.i64.wrap (4 * q) = 4 * q := by rw [IntKind.wrap_i64]; omega
  have hw5 : IntKind.i64.wrap (4 * q + 1) = 4 * q + 1 := by rw [IntKind.wrap_i64]; omega
  go_wp2_with fail
  refine (among_dr [0, 1, 3, 3, 4 * q, 4 * q + 1, -1] (-1) 21 HD.out _ rfl _ _ rfl (by omega) _ (h0 := by simp) (hb := by intro x hx; simp at hx; omega)).mono ?_
  rintro e w' ⟨x, rfl, hx, hd, hg⟩
  replace HD := Lib.hid hd
  replace HR := Lib.hid (HR.out.keptC (by omega) hg)
  have hwx : IntKind.i64.wrap (2 * q + x) = 2 * q + x := by rw [IntKind.wrap_i64]; omega
  obtain ⟨N, hN⟩ : ∃ N, N = 2 * q + x := ⟨_, rfl⟩
  rw [← hN] at hwx
  have hN1 : -1 ≤ N ∧ N ≤ 31 := by omega
  clear hd hg hw4 hw5
  go_upto_block 0 with fail
  go_cut [6] (fun v wx => ∃ xs : List Int, xs.length ≤ 32 ∧ Hid (∀ x ∈ xs, 0 ≤ x ∧ x ≤ 1000) ∧ Hid (Row (w.heap.size + 1) 3 1 wx v (xs.map ints)) ∧ Hid (Dr w.heap.size W0 wx 100))
  case first =>
    go_wp2_with fail
    go_loopw [6, 7] (fun v nv wr => ∃ (n : Int) (xs : List Int), nv = .int .i64 n ∧ (-1 ≤ n ∧ n ≤ 31) ∧ xs.length + n.toNat ≤ 31 ∧ Hid (∀ x ∈ xs, 0 ≤ x ∧ x ≤ 1000) ∧ Hid (Row (w.heap.size + 1) 3 1 wr v (xs.map ints)) ∧ Hid (Dr w.heap.size W0 wr 100))
      (fun _ nv _ => (intOf nv).toNat)
    case atStart => exact ⟨N, [], by rw [hN], hN1, by simp; omega, fun x hx => absurd hx (by simp), HR.out, HD.out.mono (by omega)⟩
    case round =>
      clear HD HR hN hwx hx hN1
      obtain ⟨n, xs, rfl, hn1, hxl, HX, HR, HD⟩ := hrel
      by_cases hi : 0 < n
      · obtain ⟨A2, d2, rfl, hd2, hd3⟩ := HR.out.parts
        simp only [List.length_map] at HR hd2 ⊢
        have hw7 : IntKind.i64.wrap (7 * (xs.length : Int)) = 7 * (xs.length : Int) := by rw [IntKind.wrap_i64]; omega
        have hw8 : IntKind.i64.wrap (5 + 7 * (xs.length : Int)) = 5 + 7 * (xs.length : Int) := by rw [IntKind.wrap_i64]; omega
        have hwn : IntKind.i64.wrap (n - 1) = n - 1 := by rw [IntKind.wrap_i64]; omega
        have HRA := Lib.hid (HR.out.alloc (.cells #[.int .i64 (5 + 7 * (xs.length : Int))] 3))
        have HDA := Lib.hid (HD.out.alloc (.cells #[.int .i64 (5 + 7 * (xs.length : Int))] 3))
        have HSR := Lib.hid (show Src (wr.alloc (.cells #[.int .i64 (5 + 7 * (xs.length : Int))] 3)) 1 (some ⟨wr.heap.size, 0, none⟩) 1 [ints (5 + 7 * (xs.length : Int))] from Src.lit wr 3 (ints (5 + 7 * (xs.length : Int))) wr.heap.size rfl rfl (ints_one _))
        have HLL := Lib.hid (show (xs.map ints).length + 1 ≤ 2147483648 by simp; omega)
        have hsw2 : w.heap.size + 1 ≤ (wr.alloc (.cells #[.int .i64 (5 + 7 * (xs.length : Int))] 3)).heap.size := by have := HD.out.size; have := HCS.out; simp; omega
        go_wp2_with (at_builtin; refine tyInt.append rfl _ _ rfl (w.heap.size + 1) (.slice A2 xs.length d2) _ rfl HRA.out _ 1 1 [ints (5 + 7 * (xs.length : Int))] rfl HSR.out HLL.out hsw2 ?_; intro o7 w7 hrow7 hg7 hat7)
        have HD7 := Lib.hid (HDA.out.own (by have := HCS.out; omega) hg7 (fun g hg => by have := (HRA.out.lt g hg).1; have := HCS.out; omega))
        have HR7 := Lib.hid (show Row (w.heap.size + 1) 3 1 w7 o7 ((xs ++ [(5 + 7 * (xs.length : Int))]).map ints) from by simpa using hrow7)
        have HX7 := Lib.hid (show ∀ z0 ∈ xs ++ [(5 + 7 * (xs.length : Int))], 0 ≤ z0 ∧ z0 ≤ 1000 from fun z0 hz0 => by
          rcases List.mem_append.1 hz0 with hz0 | hz0
          · exact HX.out z0 hz0
          · rw [List.mem_singleton.1 hz0]; omega)
        clear hrow7 hg7 hat7 HRA HDA HSR HLL hsw2
        go_wp2
        go_roundw
        case rel => exact ⟨n - 1, xs ++ [5 + 7 * (xs.length : Int)], rfl, by omega, by simp; omega, HX7.out, HR7.out, HD7.out⟩
        case measure => simp [intOf]; omega
      · go_wp2_with fail
        go_meet
        exact ⟨xs, by omega, HX, HR, HD⟩
  case rest =>
    clear HD HR hN hwx hx hN1
    obtain ⟨xs, hxl, HX, HR, HD⟩ := hcut
    by_cases hl : 1 < xs.length
    · have hll : (1 : Int) < (xs.length : Int) := by omega
      obtain ⟨g, cap, rfl, hgb, hgl, hcap⟩ := HR.out.form (by simp; omega)
      simp only [List.length_map] at HR hcap ⊢
      have HGB := Lib.hid hgb
      clear hgb hgl
      go_wp2_with fail
      refine (one_dr 24 HD.out (by omega) (by omega)).mono ?_
      rintro e w' ⟨b, rfl, hd, hg⟩
      replace HD := Lib.hid hd
      replace HR := Lib.hid (HR.out.keptC (by omega) hg)
      clear hd hg
      cases b with
      | false =>
        have HFIN := Lib.hid (HBC.out _ HD.out.grown)
        have HS := Lib.hid (Sl.of_flat HR.out)
        clear HD HR HBC
        go_wp2_with fail
        go_ret2
        exact ⟨_, xs, q, rfl, HS.out, by omega, hq, HFIN.out⟩
      | true =>
        have hr1 := HR.out.range (k := 1) (by simp; omega)
        rw [List.getElem_map] at hr1
        have hc1 := int_at hr1
        rw [Nat.mul_one] at hc1
        have hb1 := HX.out _ (List.getElem_mem hl)
        generalize xs[1] = x1 at hc1 hb1
        have hz : (0 : Int) < (xs.length : Int) := by omega
        clear hr1
        go_wp2_with fail
        refine (among_dr [0, 1000, x1] 0 1000 HD.out _ rfl _ _ rfl (by omega) _ (h0 := by simp) (hb := by intro x hx; simp at hx; omega)).mono ?_
        rintro e w4 ⟨x, rfl, hx, hd, hg⟩
        have HFIN0 := Lib.hid (HBC.out _ hd.grown)
        have hR4 := HR.out.keptC (by omega) hg
        have hst := row_int_set hR4 (k := 0) (by simp; omega) x
        have hf0 := hR4.frozen 0
        have hc0 := int_at (by have := hR4.range (k := 0) (by simp; omega); rw [List.getElem_map] at this; exact this)
        rw [Nat.zero_mul] at hc0
        have hls := (HFIN0.out).grown hst.2 HFIN0.out.size (fun k e => by have := Option.some.inj e; have := HGB.out; omega)
        have HFIN := Lib.hid hls
        have HS := Lib.hid (Sl.of_flat (enc := ints) (xs := xs.set 0 x) (by rw [List.map_set]; exact hst.1))
        clear hd hg hR4 hst hls HD HR HBC HFIN0
        go_wp2_with fail
        go_ret2
        exact ⟨_, xs.set 0 x, q, rfl, HS.out, by simp; omega, hq, HFIN.out⟩
    · have hll : ¬ (1 : Int) < (xs.length : Int) := by omega
      obtain ⟨A2, d2, rfl, hd2, hd3⟩ := HR.out.parts
      simp only [List.length_map] at HR hd2 ⊢
      have HFIN := Lib.hid (HBC.out _ HD.out.grown)
      have HS := Lib.hid (Sl.of_flat HR.out)
      clear HD HR HBC
      go_wp2_with fail
      go_ret2
      exact ⟨_, xs, q, rfl, HS.out, by omega, hq, HFIN.out⟩
end Go.Proofs.Ytabgmbmaakglkaa
