/- The walk of the reference's copy of a race. No condition. -/
import Derived.Test.YtfmgnbkneccekaaRcF
namespace Go.Proofs.Ytfmgnbkneccekaa
open Go Go.RowKit

/-- A load under a name of its own: the walk of a region then takes it where it comes, not first. -/
abbrev ldOp (t : TypeId) (x : Operand) : Op := .load t x

set_option maxRecDepth 100000 in
set_option maxHeartbeats 8000000 in
theorem l21Own_any (p : Race) (w : World) (h : p.In w) (hn : p.zs.length ≤ 1048577) (hp : ∀ z ∈ p.zs, z.card.k.punches.length ≤ 1048577) :
    Calls Try.prog 78 #[p.val] w fun e w' => ∃ p' : Race, e = .returned (.agg #[.int .i64 p'.clock, .bool p'.closed, .slice p'.a p'.n p'.c]) ∧ p'.k = p.k ∧ RaceR w.heap.size w' p' ∧ Below w.heap.size w w' := by
  have hpl := h.len
  obtain ⟨cl, cd, A, n, c, xs⟩ := p
  simp only at hpl hn hp
  subst hpl
  have hs : EntS w (.slice A xs.length c) xs := h
  have HI := Lib.hid hs.2
  have HP := Lib.hid hp
  obtain ⟨A', c', hv, hc, hm, hk⟩ := hs.1.open_
  simp only [Value.slice.injEq] at hv
  obtain ⟨rfl, _, rfl⟩ := hv
  show Calls Try.prog 78 #[.agg #[.int .i64 cl, .bool cd, .slice A xs.length c]] w _
  have hbA : Below w.heap.size w (w.alloc (.cells #[.int .i64 cl, .bool cd, .slice A xs.length c] 24)) := below_alloc (Below.refl _ _) _
  have HBA := Lib.hid hbA
  have hcA := Race.cellsNew w ⟨cl, cd, A, xs.length, c, xs⟩ 24
  have HCA := Lib.hid (fun W' hW' => (hcA ⟨W', hW'⟩).2.2)
  have hsA : (w.alloc (.cells #[.int .i64 cl, .bool cd, .slice A xs.length c] 24)).heap.size = w.heap.size + 1 := by simp
  have HSA := Lib.hid hsA
  have hb0 : Below (w.alloc (.cells #[.int .i64 cl, .bool cd, .slice A xs.length c] 24)).heap.size (w.alloc (.cells #[.int .i64 cl, .bool cd, .slice A xs.length c] 24)) ((((w.alloc (.cells #[.int .i64 cl, .bool cd, .slice A xs.length c] 24)).alloc (.cells #[.int .i64 0, .bool false, .slice none 0 0] 24)).alloc (.cells #[] 75)).alloc (.cells #[.int .i64 cl, .bool cd, .slice (some ⟨w.heap.size + 1 + 1, 0, none⟩) 0 0] 24)) := below_alloc (below_alloc (below_alloc (Below.refl _ _) _) _) _
  have hz0 : w.heap.size + 4 ≤ ((((w.alloc (.cells #[.int .i64 cl, .bool cd, .slice A xs.length c] 24)).alloc (.cells #[.int .i64 0, .bool false, .slice none 0 0] 24)).alloc (.cells #[] 75)).alloc (.cells #[.int .i64 cl, .bool cd, .slice (some ⟨w.heap.size + 1 + 1, 0, none⟩) 0 0] 24)).heap.size := by simp
  have hl2 : LitAt ((((w.alloc (.cells #[.int .i64 cl, .bool cd, .slice A xs.length c] 24)).alloc (.cells #[.int .i64 0, .bool false, .slice none 0 0] 24)).alloc (.cells #[] 75)).alloc (.cells #[.int .i64 cl, .bool cd, .slice (some ⟨w.heap.size + 1 + 1, 0, none⟩) 0 0] 24)) (w.heap.size + 1) 24 [.int .i64 0, .bool false, .slice none 0 0] := LitAt.alloc (LitAt.alloc (LitAt.new _ _ _ _ (by simp)) _) _
  have hl3 : LitAt ((((w.alloc (.cells #[.int .i64 cl, .bool cd, .slice A xs.length c] 24)).alloc (.cells #[.int .i64 0, .bool false, .slice none 0 0] 24)).alloc (.cells #[] 75)).alloc (.cells #[.int .i64 cl, .bool cd, .slice (some ⟨w.heap.size + 1 + 1, 0, none⟩) 0 0] 24)) (w.heap.size + 1 + 1 + 1) 24 [.int .i64 cl, .bool cd, .slice (some ⟨w.heap.size + 1 + 1, 0, none⟩) 0 0] := LitAt.new _ _ _ _ (by simp)
  have hr0 : EntR (w.heap.size + 1 + 1) ((((w.alloc (.cells #[.int .i64 cl, .bool cd, .slice A xs.length c] 24)).alloc (.cells #[.int .i64 0, .bool false, .slice none 0 0] 24)).alloc (.cells #[] 75)).alloc (.cells #[.int .i64 cl, .bool cd, .slice (some ⟨w.heap.size + 1 + 1, 0, none⟩) 0 0] 24)) (.slice (some ⟨w.heap.size + 1 + 1, 0, none⟩) 0 0) [] := by
    have := EntR.lit (base := w.heap.size + 1 + 1) (w := ((w.alloc (.cells #[.int .i64 cl, .bool cd, .slice A xs.length c] 24)).alloc (.cells #[.int .i64 0, .bool false, .slice none 0 0] 24))) (g := w.heap.size + 1 + 1) (by simp) (by omega)
    exact EntR.below this (below_alloc (Below.refl _ _) _)
  have hne0 : ∀ k, EntBlk (.slice (some ⟨w.heap.size + 1 + 1, 0, none⟩) 0 0) [] k → k ≠ w.heap.size + 1 + 1 + 1 := by
    rintro k (hk | ⟨z, hz, _⟩)
    · simp [Value.ownBlock] at hk; omega
    · simp at hz
  have HB0 := Lib.hid hb0
  have HZ0 := Lib.hid hz0
  have HL2 := Lib.hid hl2
  have HL3 := Lib.hid hl3
  have HR0 := Lib.hid hr0
  have HN0 := Lib.hid hne0
  clear h hs hp hb0 hz0 hl2 hl3 hr0 hne0 hbA hcA hsA
  go_enter Try.func78, Try.ntmps78
  go_wp2
  obtain ⟨WA, hWA⟩ : ∃ WA, WA = (w.alloc (.cells #[.int .i64 cl, .bool cd, .slice A xs.length c] 24)) := ⟨_, rfl⟩
  rw [← hWA] at HBA HCA HSA
  have HWA := Lib.hid hWA
  clear hWA
  go_loopw [4] (fun i wr => ∃ (k : Nat) (zs : List Ent) (D : Option Addr) (m d : Nat), k ≤ xs.length ∧ i = .int .i64 k ∧ Hid (zs.length = k) ∧ Hid (zs.map Ent.k = (xs.take k).map Ent.k) ∧ Hid (LitAt wr (w.heap.size + 1) 24 [.int .i64 0, .bool false, .slice none 0 0]) ∧ Hid (LitAt wr (w.heap.size + 1 + 1 + 1) 24 [.int .i64 cl, .bool cd, .slice D m d]) ∧ Hid (EntR (w.heap.size + 1 + 1) wr (.slice D m d) zs) ∧ Hid (∀ k, EntBlk (.slice D m d) zs k → k ≠ w.heap.size + 1 + 1 + 1) ∧ Hid (Below WA.heap.size WA wr) ∧ w.heap.size + 4 ≤ wr.heap.size)
    (fun i _ => xs.length - (intOf i).toNat)
  case atStart => exact ⟨0, [], _, _, _, Nat.zero_le _, rfl, rfl, rfl, HL2.out, HL3.out, HR0.out, HN0.out, by show Below _ _ _; rw [HWA.out]; exact HB0.out, HZ0.out⟩
  case round =>
    clear HL2 HL3 HR0 HN0 HB0 HZ0
    obtain ⟨k, zs, D, m, d, hkl, rfl, HZL, HZK, HL2, HL3, HR, HNE, HB, hz4⟩ := hrel
    have hcf := HCA.out _ HB.out
    try simp only at hcf
    by_cases hlt : k < xs.length
    · obtain ⟨b, off, rfl, hat⟩ := flat_at hk (by omega)
      have HAT := Lib.hid (rangeAt_below (hat k hlt) HBA.out)
      have hin := ((HI.out _ (List.getElem_mem hlt)).below HBA.out).below HB.out
      have hpl := HP.out _ (List.getElem_mem hlt)
      have HSK := Lib.hid (show (xs.take (k + 1)).map Ent.k = (xs.take k).map Ent.k ++ [xs[k].k] by rw [List.take_succ_eq_append_getElem hlt, List.map_append]; rfl)
      have HLL := Lib.hid (show (zs.map Ent.lst).length + 1 ≤ 2147483648 by rw [List.length_map, HZL.out]; omega)
      obtain ⟨x, hx⟩ : ∃ x, x = xs[k] := ⟨_, rfl⟩
      rw [← hx] at HAT hin hpl HSK
      obtain ⟨x0, ⟨⟨k0, k1, k2, sp⟩, B, q, f⟩⟩ := x
      simp only at hin hpl
      have hb1d : Below wr.heap.size wr wr.drew := (Below.refl _ _).drew
      have HCALL := Lib.hid (l12Own_any ⟨⟨k0, k1, k2, sp⟩, B, q, f⟩ _ (hin.below hb1d) hpl)
      have HKEEP := Lib.hid (show ∀ w', Below WA.heap.size WA w' → w'.cell? ⟨b, off + k * 5, none⟩ = some (.int .i64 x0) ∧ w'.cell? ⟨b, off + k * 5 + 1, none⟩ = some (.int .i64 k0) ∧ w'.cell? ⟨b, off + k * 5 + 2, none⟩ = some (.int .i64 k1) ∧ w'.cell? ⟨b, off + k * 5 + 3, none⟩ = some (.int .i64 k2) ∧ w'.cell? ⟨b, off + k * 5 + 4, none⟩ = some (.slice B q f) ∧ w'.cell? ⟨w.heap.size, 2, none⟩ = some (.slice (some ⟨b, off, none⟩) xs.length c) from fun w' hW' => by
        have h1 := Ent.cells (rangeAt_below HAT.out hW')
        exact ⟨h1.1, h1.2.1, h1.2.2.1, h1.2.2.2.1, h1.2.2.2.2, HCA.out _ hW'⟩)
      have hc1 := HL3.out.range 2 _ rfl
      simp only [Nat.zero_add] at hc1
      have hR0 := HB.out
      have hR1 := hR0.drew
      have HB1 := Lib.hid hb1d
      clear hat hk hx hin hb1d
      go_wp2_with fail
      rw [show (Op.load 22 (.tmp 18)) = ldOp 22 (.tmp 18) from rfl]
      go_region_held3 (fun w' => w'.cell? ⟨b, off + k * 5, none⟩ = some (.int .i64 x0) ∧ w'.cell? ⟨b, off + k * 5 + 1, none⟩ = some (.int .i64 k0) ∧ w'.cell? ⟨b, off + k * 5 + 2, none⟩ = some (.int .i64 k1) ∧ w'.cell? ⟨b, off + k * 5 + 3, none⟩ = some (.int .i64 k2) ∧ w'.cell? ⟨b, off + k * 5 + 4, none⟩ = some (.slice B q f) ∧ w'.cell? ⟨w.heap.size, 2, none⟩ = some (.slice (some ⟨b, off, none⟩) xs.length c))
        (exact HKEEP.out _ (by first | (with_reducible exact hR5) | (with_reducible exact hR4) | (with_reducible exact hR3) | (with_reducible exact hR2) | (with_reducible exact hR1) | (with_reducible exact hR0)))
        (first
          | (go_at_call 70; refine HCALL.out.mono ?_; rintro e w2 ⟨⟨kk, A', n', c'⟩, he, hk', row2, hb2⟩; simp only at hk'; subst hk'; obtain rfl : e = .returned (.agg #[.int .i64 k0, .int .i64 k1, .int .i64 k2, .slice A' n' c']) := he; have row2 : Row wr.drew.heap.size 89 2 w2 (.slice A' n' c') (sp.map Punch.lst) := row2; have hR2 := step_ hR1 (Nat.le_refl _) hb2; have hR3 := below_alloc hR2 (.cells #[.int .i64 x0, .int .i64 k0, .int .i64 k1, .int .i64 k2, .slice A' n' c'] 75); have hB2 := step_ HB1.out (Nat.le_refl _) hb2; have hB3 := below_alloc hB2 (.cells #[.int .i64 x0, .int .i64 k0, .int .i64 k1, .int .i64 k2, .slice A' n' c'] 75); have HL32 := Lib.hid ((HL3.out.below HB1.out).below hb2); have hc2 := HL32.out.range 2 _ rfl; simp only [Nat.zero_add] at hc2; have hc2b := (HL32.out.alloc (.cells #[.int .i64 x0, .int .i64 k0, .int .i64 k1, .int .i64 k2, .slice A' n' c'] 75)).range 2 _ rfl; simp only [Nat.zero_add] at hc2b; have HRO := Lib.hid (((HR.out.1.below HB1.out).below hb2).alloc (.cells #[.int .i64 x0, .int .i64 k0, .int .i64 k1, .int .i64 k2, .slice A' n' c'] 75)); have HSR := Lib.hid (Src.lit w2 75 (Ent.lst ⟨x0, ⟨⟨k0, k1, k2, sp⟩, A', n', c'⟩⟩) w2.heap.size rfl rfl (Ent.one _)))
          | (refine tyEnt.stepAppendR (by rfl) _ _ (by rfl) (w.heap.size + 1 + 1) (.slice D m d) _ (by rfl) HRO.out _ 1 1 _ (by rfl) HSR.out HLL.out (by have := hB3.size; omega) ?_; intro o4 w4 hrow4 hg4 hat4; obtain ⟨A4, c4, rfl, hc4, hm4⟩ := hrow4.parts; simp only [List.length_append, List.length_map, List.length_singleton] at hc4 hat4 hrow4 ⊢; have HL34 := Lib.hid ((HL32.out.alloc (.cells #[.int .i64 x0, .int .i64 k0, .int .i64 k1, .int .i64 k2, .slice A' n' c'] 75)).grown hg4 (fun e => HNE.out _ (.inl e) rfl)); have hc3_ := HL34.out.range 2 _ rfl; have hf3 := HL34.out.frozen; simp only [Nat.zero_add] at hc3_; have hR4 := hR3.grown hg4 hR3.size (fun q hq => by have := (HR.out.1.lt q hq).1; have := HSA.out; omega); have hR5 := hR4.setCell (p := ⟨w.heap.size + 1 + 1 + 1, 2, none⟩) (by have := HSA.out; simp <;> omega) (.slice A4 (zs.length + 1) c4)))
      all_goals
        have hs3 := hB3.size
        have hpush := EntR.push (z := ⟨x0, ⟨⟨k0, k1, k2, sp⟩, A', n', c'⟩⟩) HR.out (by omega) hB3 (Row.alloc (Row.mono (base' := wr.heap.size) (show Row wr.heap.size 89 2 w2 (.slice A' n' c') (sp.map Punch.lst) from row2) (Nat.le_refl _)) _) hrow4 hg4 hat4
        have hn4 := entBlk_push (q := w.heap.size + 1 + 1 + 1) (v := .slice D m d) (v' := .slice A4 (zs.length + 1) c4) (zs := zs) (z := ⟨x0, ⟨⟨k0, k1, k2, sp⟩, A', n', c'⟩⟩) (hat4.imp id (fun e k hk => by rw [e] at hk; simp only [Option.some.injEq] at hk; omega)) (fun k hk => by have h1 : wr.heap.size ≤ k := (row2.lt k hk).1; omega) HNE.out
        have HPU := Lib.hid (hpush.setNe (q := w.heap.size + 1 + 1 + 1) (o := 2) hn4 (.slice A4 (zs.length + 1) c4))
        have HN4 := Lib.hid hn4
        have HL3N := Lib.hid (HL34.out.set 2 (.slice A4 (zs.length + 1) c4))
        have HL2N := Lib.hid ((((((HL2.out.below HB1.out).below hb2).alloc (.cells #[.int .i64 x0, .int .i64 k0, .int .i64 k1, .int .i64 k2, .slice A' n' c'] 75)).grown hg4 (fun e => by have := (HR.out.1.lt _ e).1; omega))).setNe (q := w.heap.size + 1 + 1 + 1) (o := 2) (by omega) (.slice A4 (zs.length + 1) c4))
        have HBN := Lib.hid hR5
        have hs4 := hg4.size
        clear hpush hn4 hrow4 hg4 hat4 row2 hb2 hB2 hB3 hR0 hR1 hR2 hR3 hR4 hR5 hc1 hc2 hc2b hc3_ hf3
        go_wp2
        go_roundw
        case rel => exact ⟨k + 1, zs ++ [(⟨x0, ⟨⟨k0, k1, k2, sp⟩, A', n', c'⟩⟩ : Ent)], A4, zs.length + 1, c4, by omega, by go_num, by show _ = _; simp; exact HZL.out, by show _ = _; rw [HSK.out, List.map_append, HZK.out]; rfl, HL2N.out, HL3N.out, HPU.out, HN4.out, HBN.out, by simp; omega⟩
        case measure => simp [intOf]; omega
    · obtain rfl : k = xs.length := by omega
      rw [List.take_length] at HZK
      have hm1 := HL2.out
      have hm3 := HL3.out
      have hc10 := hm1.range 0 _ rfl
      have hc11 := hm1.range 1 _ rfl
      have hc12 := hm1.range 2 _ rfl
      have hc30 := hm3.range 0 _ rfl
      have hc31 := hm3.range 1 _ rfl
      have hc32 := hm3.range 2 _ rfl
      have hf1 := hm1.frozen
      simp only [Nat.zero_add] at hc10 hc11 hc12 hc30 hc31 hc32
      clear hm1 hm3
      go_wp2
      refine bodyPost_ret (v := .agg #[.int .i64 cl, .bool cd, .slice D m d]) (by simp [results, Try.results78, go_sem, hc10, hc11, hc12]) rfl ⟨⟨cl, cd, D, m, d, zs⟩, rfl, by simp only [Race.k, HZK.out], ?_, ?_⟩
      · have h0 := HR.out
        refine EntR.mono (base := w.heap.size + 1 + 1) ?_ (by omega)
        repeat (first | (with_reducible exact h0) | (with_reducible refine EntR.setOther ?_ (by omega) _))
      · repeat (first | (with_reducible exact step_ HBA.out (Nat.le_refl _) HB.out) | (with_reducible refine Below.setCell ?_ (by simp <;> omega) _))
end Go.Proofs.Ytfmgnbkneccekaa
