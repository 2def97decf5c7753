/- The walk of the reference's copies of runs. No condition. -/
import Derived.Test.YtojpklpfnmjikaaRnC
namespace Go.Proofs.Ytojpklpfnmjikaa
open Go Go.RowKit

set_option maxRecDepth 100000 in
set_option maxHeartbeats 4000000 in
theorem l15Own_any (xs : List Run) (v : Value) (w : World) (h : RunS w v xs) (hn : xs.length ≤ 1048577) (hp : ∀ p ∈ xs, p.card.k.punches.length ≤ 1048577) :
    Calls Try.prog 57 #[v] w fun e w' => ∃ v' zs, e = .returned v' ∧ zs.map Run.k = xs.map Run.k ∧ RunR w.heap.size w' v' zs ∧ Below w.heap.size w w' := by
  have HI := Lib.hid h.2
  have HP := Lib.hid hp
  obtain ⟨A, c, rfl, hc, hm, hk⟩ := h.1.open_
  clear h hp
  go_enter Try.func57, Try.ntmps57
  go_wp2
  have hr0 : RunR w.heap.size (w.alloc (.cells #[] 53)) (.slice (some ⟨w.heap.size, 0, none⟩) 0 0) [] := RunR.lit rfl (Nat.le_refl _)
  have hb0 : Below w.heap.size w (w.alloc (.cells #[] 53)) := below_alloc (Below.refl _ _) _
  go_loopw [3, 4] (fun o i wr => ∃ (k : Nat) (zs : List Run), k ≤ xs.length ∧ i = .int .i64 k ∧ Hid (zs.length = k) ∧ Hid (zs.map Run.k = (xs.take k).map Run.k) ∧ RunR w.heap.size wr o zs ∧ Below w.heap.size w wr)
    (fun _ i _ => xs.length - (intOf i).toNat)
  case atStart => exact ⟨0, [], Nat.zero_le _, rfl, rfl, rfl, hr0, hb0⟩
  case round =>
    clear hr0 hb0
    obtain ⟨k, zs, hkl, rfl, HZL, HZK, hR, hb⟩ := hrel
    by_cases hlt : k < xs.length
    · obtain ⟨b, off, rfl, hat⟩ := flat_at hk (by omega)
      have hin := HI.out _ (List.getElem_mem hlt)
      have hpl := HP.out _ (List.getElem_mem hlt)
      have HAT := Lib.hid (hat k hlt)
      have HSK := Lib.hid (show (xs.take (k + 1)).map Run.k = (xs.take k).map Run.k ++ [xs[k].k] by rw [List.take_succ_eq_append_getElem hlt, List.map_append]; rfl)
      have HLL := Lib.hid (show (zs.map Run.lst).length + 1 ≤ 2147483648 by rw [List.length_map, HZL.out]; omega)
      obtain ⟨x, hx⟩ : ∃ x, x = xs[k] := ⟨_, rfl⟩
      rw [← hx] at hin hpl HSK HAT
      obtain ⟨x0, x1, x2, ⟨⟨k0, k1, k2, sp⟩, B, m, d⟩⟩ := x
      simp only at hin hpl
      have HCALL := Lib.hid (fun W (hW : Below w.heap.size w W) => l12Own_any ⟨⟨k0, k1, k2, sp⟩, B, m, d⟩ W (hin.below hW) hpl)
      have HKEEP := Lib.hid (show ∀ W', Below w.heap.size w W' → W'.cell? ⟨b, off + k * 7, none⟩ = some (.int .i64 x0) ∧ W'.cell? ⟨b, off + k * 7 + 1, none⟩ = some (.bool x1) ∧ W'.cell? ⟨b, off + k * 7 + 2, none⟩ = some (.bool x2) ∧ W'.cell? ⟨b, off + k * 7 + 3, none⟩ = some (.int .i64 k0) ∧ W'.cell? ⟨b, off + k * 7 + 4, none⟩ = some (.int .i64 k1) ∧ W'.cell? ⟨b, off + k * 7 + 5, none⟩ = some (.int .i64 k2) ∧ W'.cell? ⟨b, off + k * 7 + 6, none⟩ = some (.slice B m d) from fun W' hW' => Run.cells (rangeAt_below HAT.out hW'))
      have HR := Lib.hid hR
      have hB0 := hb
      have hB1 : Below w.heap.size w wr.drew := hb.drew
      clear hat hk hx hin hR hb
      go_wp2_with fail
      go_region_held3 (fun w' => w'.cell? ⟨b, off + k * 7, none⟩ = some (.int .i64 x0) ∧ w'.cell? ⟨b, off + k * 7 + 1, none⟩ = some (.bool x1) ∧ w'.cell? ⟨b, off + k * 7 + 2, none⟩ = some (.bool x2) ∧ w'.cell? ⟨b, off + k * 7 + 3, none⟩ = some (.int .i64 k0) ∧ w'.cell? ⟨b, off + k * 7 + 4, none⟩ = some (.int .i64 k1) ∧ w'.cell? ⟨b, off + k * 7 + 5, none⟩ = some (.int .i64 k2) ∧ w'.cell? ⟨b, off + k * 7 + 6, none⟩ = some (.slice B m d))
        (exact HKEEP.out _ (by first | (with_reducible exact hB4) | (with_reducible exact hB3) | (with_reducible exact hB2) | (with_reducible exact hB1) | (with_reducible exact hB0)))
        (first
          | (go_at_call 98; refine (HCALL.out _ hB1).mono ?_; rintro e w2 ⟨⟨kk, A', n', c'⟩, he, hk', row2, hb2⟩; simp only at hk'; subst hk'; obtain rfl : e = .returned (.agg #[.int .i64 k0, .int .i64 k1, .int .i64 k2, .slice A' n' c']) := he; have row2 : Row wr.drew.heap.size 77 2 w2 (.slice A' n' c') (sp.map Punch.lst) := row2; have hB2 := step_ hB1 (Nat.le_refl _) hb2; have hB3 := below_alloc hB2 (.cells #[.int .i64 x0, .bool x1, .bool x2, .int .i64 k0, .int .i64 k1, .int .i64 k2, .slice A' n' c'] 53); have HRO := Lib.hid (((HR.out.1.drew).below hb2).alloc (.cells #[.int .i64 x0, .bool x1, .bool x2, .int .i64 k0, .int .i64 k1, .int .i64 k2, .slice A' n' c'] 53)); have HSR := Lib.hid (Src.lit w2 53 (Run.lst ⟨x0, x1, x2, ⟨⟨k0, k1, k2, sp⟩, A', n', c'⟩⟩) w2.heap.size rfl rfl (Run.one _)))
          | (refine tyRun.stepAppendR (by rfl) _ _ (by rfl) w.heap.size _ _ (by rfl) HRO.out _ 1 1 _ (by rfl) HSR.out HLL.out hB3.size ?_; intro o4 w4 hrow4 hg4 hat4; have hB4 := hB3.grown hg4 hB3.size (fun q hq => (HR.out.1.lt q hq).1)))
      have hpush := RunR.push (z := ⟨x0, x1, x2, ⟨⟨k0, k1, k2, sp⟩, A', n', c'⟩⟩) HR.out hB0.size (step_ (step_ ((Below.refl _ _).drew) (Nat.le_refl _) hb2) (Nat.le_refl _) (below_alloc (Below.refl _ _) (.cells #[.int .i64 x0, .bool x1, .bool x2, .int .i64 k0, .int .i64 k1, .int .i64 k2, .slice A' n' c'] 53))) (Row.alloc (show Row wr.heap.size 77 2 w2 (.slice A' n' c') (sp.map Punch.lst) from row2) _) hrow4 hg4 hat4
      have HPU := Lib.hid hpush
      have HB4 := Lib.hid hB4
      clear hpush hrow4 hg4 hat4 row2 hb2 hB0 hB1 hB2 hB3 hB4
      go_wp2
      go_roundw
      case rel => exact ⟨k + 1, zs ++ [⟨x0, x1, x2, ⟨⟨k0, k1, k2, sp⟩, A', n', c'⟩⟩], by omega, by go_num, by show _ = _; simp; exact HZL.out, by show _ = _; rw [HSK.out, List.map_append, HZK.out]; rfl, HPU.out, HB4.out⟩
      case measure => simp [intOf]; omega
    · go_wp2
      go_ret
      obtain rfl : k = xs.length := by omega
      refine ⟨_, zs, rfl, by rw [HZK.out, List.take_length], hR, hb⟩
end Go.Proofs.Ytojpklpfnmjikaa
