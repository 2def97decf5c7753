/- The walks of the copies of races. No condition. -/
import Derived.Test.YtfmgnbkneccekaaRcL
import Derived.Test.YtfmgnbkneccekaaCdC
import Derived.Deep.RegionLaw
namespace Go.Proofs.Ytfmgnbkneccekaa
open Go Go.RowKit

theorem LitAt.set {e : TypeId} {w : World} {g : Nat} {cs : List Value} (h : LitAt w g e cs) (j : Nat) (u : Value) : LitAt (w.setCell ⟨g, j, none⟩ u) g e (cs.set j u) := by
  unfold LitAt at h ⊢
  rw [heap_setCell_same w g j cs.toArray e u h]
  simp
theorem LitAt.setNe {e : TypeId} {w : World} {g q o : Nat} {cs : List Value} (h : LitAt w g e cs) (hne : g ≠ q) (u : Value) : LitAt (w.setCell ⟨q, o, none⟩ u) g e cs := by
  unfold LitAt at h ⊢
  rw [Below.heap_setCell _ _ _ _ (by simpa using hne)]
  exact h
theorem EntR.setNe {base : Nat} {w : World} {v : Value} {zs : List Ent} (h : EntR base w v zs) {q o : Nat} (hne : ∀ k, EntBlk v zs k → k ≠ q) (u : Value) : EntR base (w.setCell ⟨q, o, none⟩ u) v zs :=
  ⟨⟨h.1.1, ownsRow_setCell_other h.1.2 (fun e => hne q (.inl e) rfl) _⟩, fun z hz => ⟨⟨(h.2.1 z hz).1.1, ownsRow_setCell_other (h.2.1 z hz).1.2 (fun e => hne q (.inr ⟨z, hz, e⟩) rfl) _⟩, (h.2.1 z hz).2⟩, h.2.2⟩
/-- Behind the push of one more, the blocks are the old ones or new. -/
theorem entBlk_push {v v' : Value} {zs : List Ent} {z : Ent} {q : Nat} (hv : v'.ownBlock = v.ownBlock ∨ ∀ k, v'.ownBlock = some k → q < k) (hz : ∀ k, z.card.sv.ownBlock = some k → q < k) (h : ∀ k, EntBlk v zs k → k ≠ q) : ∀ k, EntBlk v' (zs ++ [z]) k → k ≠ q := by
  rintro k (hk | ⟨y, hy, hk⟩)
  · rcases hv with e | e
    · exact h k (.inl (e ▸ hk))
    · have := e k hk; omega
  · rcases List.mem_append.1 hy with hy | hy
    · exact h k (.inr ⟨y, hy, hk⟩)
    · rw [List.mem_singleton.1 hy] at hk
      have := hz k hk
      omega

theorem ent_keep {w : World} {g : Nat} {x0 k0 k1 k2 : Int} {v : Value} (h : LitAt w g 75 [.int .i64 x0, .int .i64 k0, .int .i64 k1, .int .i64 k2, v]) : w.cell? ⟨g, 0, none⟩ = some (.int .i64 x0) ∧ w.cell? ⟨g, 1, none⟩ = some (.int .i64 k0) ∧ w.cell? ⟨g, 2, none⟩ = some (.int .i64 k1) ∧ w.cell? ⟨g, 3, none⟩ = some (.int .i64 k2) ∧ w.cell? ⟨g, 4, none⟩ = some v := by
  have h0 := h.range 0 _ rfl
  have h1 := h.range 1 _ rfl
  have h2 := h.range 2 _ rfl
  have h3 := h.range 3 _ rfl
  have h4 := h.range 4 _ rfl
  simp only [Nat.zero_add] at h0 h1 h2 h3 h4
  exact ⟨h0, h1, h2, h3, h4⟩

set_option maxRecDepth 100000 in
set_option maxHeartbeats 8000000 in
theorem newRace_any (p : Race) (w : World) (h : p.In w) (hn : p.zs.length ≤ 1048577) (hp : ∀ z ∈ p.zs, z.card.k.punches.length ≤ 1048577) :
    Calls Try.prog 71 #[p.val] w fun e w' => ∃ p' : Race, e = .returned (.agg #[.int .i64 p'.clock, .bool p'.closed, .slice p'.a p'.n p'.c]) ∧ p'.k = p.k ∧ RaceR w.heap.size w' p' ∧ Below w.heap.size w w' := by
  have hpl := h.len
  obtain ⟨cl, cd, A, n, c, xs⟩ := p
  simp only at hpl hn hp
  subst hpl
  have hs : EntS w (.slice A xs.length c) xs := h
  have HI := Lib.hid hs.2
  have HP := Lib.hid hp
  obtain ⟨A', c', hv, hc, hm, hk⟩ := hs.1.open_
  simp only [Value.slice.injEq] at hv
  obtain ⟨rfl, _, rfl⟩ := hv
  show Calls Try.prog 71 #[.agg #[.int .i64 cl, .bool cd, .slice A xs.length c]] w _
  have hb0 : Below w.heap.size w ((((w.alloc (.cells #[.int .i64 cl, .bool cd, .slice A xs.length c] 24)).alloc (.cells #[.int .i64 0, .bool false, .slice none 0 0] 24)).alloc (.cells #[] 75)).alloc (.cells #[.int .i64 cl, .bool cd, .slice (some ⟨w.heap.size + 1 + 1, 0, none⟩) 0 0] 24)) := below_alloc (below_alloc (below_alloc (below_alloc (Below.refl _ _) _) _) _) _
  have hz0 : w.heap.size + 4 ≤ ((((w.alloc (.cells #[.int .i64 cl, .bool cd, .slice A xs.length c] 24)).alloc (.cells #[.int .i64 0, .bool false, .slice none 0 0] 24)).alloc (.cells #[] 75)).alloc (.cells #[.int .i64 cl, .bool cd, .slice (some ⟨w.heap.size + 1 + 1, 0, none⟩) 0 0] 24)).heap.size := by simp
  have hl2 : LitAt ((((w.alloc (.cells #[.int .i64 cl, .bool cd, .slice A xs.length c] 24)).alloc (.cells #[.int .i64 0, .bool false, .slice none 0 0] 24)).alloc (.cells #[] 75)).alloc (.cells #[.int .i64 cl, .bool cd, .slice (some ⟨w.heap.size + 1 + 1, 0, none⟩) 0 0] 24)) (w.heap.size + 1) 24 [.int .i64 0, .bool false, .slice none 0 0] := LitAt.alloc (LitAt.alloc (LitAt.new _ _ _ _ (by simp)) _) _
  have hl3 : LitAt ((((w.alloc (.cells #[.int .i64 cl, .bool cd, .slice A xs.length c] 24)).alloc (.cells #[.int .i64 0, .bool false, .slice none 0 0] 24)).alloc (.cells #[] 75)).alloc (.cells #[.int .i64 cl, .bool cd, .slice (some ⟨w.heap.size + 1 + 1, 0, none⟩) 0 0] 24)) (w.heap.size + 1 + 1 + 1) 24 [.int .i64 cl, .bool cd, .slice (some ⟨w.heap.size + 1 + 1, 0, none⟩) 0 0] := LitAt.new _ _ _ _ (by simp)
  have hr0 : EntR (w.heap.size + 1 + 1) ((((w.alloc (.cells #[.int .i64 cl, .bool cd, .slice A xs.length c] 24)).alloc (.cells #[.int .i64 0, .bool false, .slice none 0 0] 24)).alloc (.cells #[] 75)).alloc (.cells #[.int .i64 cl, .bool cd, .slice (some ⟨w.heap.size + 1 + 1, 0, none⟩) 0 0] 24)) (.slice (some ⟨w.heap.size + 1 + 1, 0, none⟩) 0 0) [] := by
    have := EntR.lit (base := w.heap.size + 1 + 1) (w := ((w.alloc (.cells #[.int .i64 cl, .bool cd, .slice A xs.length c] 24)).alloc (.cells #[.int .i64 0, .bool false, .slice none 0 0] 24))) (g := w.heap.size + 1 + 1) (by simp) (by omega)
    exact EntR.below this (below_alloc (Below.refl _ _) _)
  have hne0 : ∀ k, EntBlk (.slice (some ⟨w.heap.size + 1 + 1, 0, none⟩) 0 0) [] k → k ≠ w.heap.size + 1 + 1 + 1 := by
    rintro k (hk | ⟨z, hz, _⟩)
    · simp [Value.ownBlock] at hk; omega
    · simp at hz
  have HB0 := Lib.hid hb0
  have HZ0 := Lib.hid hz0
  have HL2 := Lib.hid hl2
  have HL3 := Lib.hid hl3
  have HR0 := Lib.hid hr0
  have HN0 := Lib.hid hne0
  clear h hs hp hb0 hz0 hl2 hl3 hr0 hne0
  go_enter Try.func71, Try.ntmps71
  go_wp2
  go_loopw [15] (fun i wr => ∃ (k : Nat) (zs : List Ent) (D : Option Addr) (m d : Nat), k ≤ xs.length ∧ i = .int .i64 k ∧ Hid (zs.length = k) ∧ Hid (zs.map Ent.k = (xs.take k).map Ent.k) ∧ Hid (LitAt wr (w.heap.size + 1) 24 [.int .i64 0, .bool false, .slice none 0 0]) ∧ Hid (LitAt wr (w.heap.size + 1 + 1 + 1) 24 [.int .i64 cl, .bool cd, .slice D m d]) ∧ Hid (EntR (w.heap.size + 1 + 1) wr (.slice D m d) zs) ∧ Hid (∀ k, EntBlk (.slice D m d) zs k → k ≠ w.heap.size + 1 + 1 + 1) ∧ Hid (Below w.heap.size w wr) ∧ w.heap.size + 4 ≤ wr.heap.size)
    (fun i _ => xs.length - (intOf i).toNat)
  case atStart => exact ⟨0, [], _, _, _, Nat.zero_le _, rfl, rfl, rfl, HL2.out, HL3.out, HR0.out, HN0.out, HB0.out, HZ0.out⟩
  case round =>
    clear HL2 HL3 HR0 HN0 HB0 HZ0
    obtain ⟨k, zs, D, m, d, hkl, rfl, HZL, HZK, HL2, HL3, HR, HNE, HB, hz4⟩ := hrel
    by_cases hlt : k < xs.length
    · obtain ⟨b, off, rfl, hat⟩ := flat_at hk (by omega)
      have hr := rangeAt_below (hat k hlt) HB.out
      have hin := (HI.out _ (List.getElem_mem hlt)).below HB.out
      have hpl := HP.out _ (List.getElem_mem hlt)
      have HSK := Lib.hid (show (xs.take (k + 1)).map Ent.k = (xs.take k).map Ent.k ++ [xs[k].k] by rw [List.take_succ_eq_append_getElem hlt, List.map_append]; rfl)
      have HLL := Lib.hid (show (zs.map Ent.lst).length + 1 ≤ 2147483648 by rw [List.length_map, HZL.out]; omega)
      obtain ⟨x, hx⟩ : ∃ x, x = xs[k] := ⟨_, rfl⟩
      rw [← hx] at hr hin hpl HSK
      obtain ⟨x0, ⟨⟨k0, k1, k2, sp⟩, B, q, f⟩⟩ := x
      simp only at hin hpl
      have hb1 : Below wr.heap.size wr (wr.alloc (.cells #[.int .i64 x0, .int .i64 k0, .int .i64 k1, .int .i64 k2, .slice B q f] 75)) := below_alloc (Below.refl _ _) _
      have hb1d := hb1.drew
      have HCALL := Lib.hid (newCard_any ⟨⟨k0, k1, k2, sp⟩, B, q, f⟩ _ (hin.below hb1d) hpl)
      have HKEEP := Lib.hid (show ∀ W', Below (wr.alloc (.cells #[.int .i64 x0, .int .i64 k0, .int .i64 k1, .int .i64 k2, .slice B q f] 75)).heap.size (wr.alloc (.cells #[.int .i64 x0, .int .i64 k0, .int .i64 k1, .int .i64 k2, .slice B q f] 75)) W' → W'.cell? ⟨wr.heap.size, 0, none⟩ = some (.int .i64 x0) ∧ W'.cell? ⟨wr.heap.size, 1, none⟩ = some (.int .i64 k0) ∧ W'.cell? ⟨wr.heap.size, 2, none⟩ = some (.int .i64 k1) ∧ W'.cell? ⟨wr.heap.size, 3, none⟩ = some (.int .i64 k2) ∧ W'.cell? ⟨wr.heap.size, 4, none⟩ = some (.slice B q f) from fun W' hW' => Ent.cellsNew wr ⟨x0, ⟨⟨k0, k1, k2, sp⟩, B, q, f⟩⟩ 75 ⟨W', hW'⟩)
      have hc1 := (HL3.out.alloc (.cells #[.int .i64 x0, .int .i64 k0, .int .i64 k1, .int .i64 k2, .slice B q f] 75)).range 2 _ rfl
      simp only [Nat.zero_add] at hc1
      have HBX := Lib.hid (show LitAt (wr.alloc (.cells #[.int .i64 x0, .int .i64 k0, .int .i64 k1, .int .i64 k2, .slice B q f] 75)).drew wr.heap.size 75 [.int .i64 x0, .int .i64 k0, .int .i64 k1, .int .i64 k2, .slice B q f] from LitAt.new _ _ _ _ rfl)
      obtain ⟨hk10, hk11, hk12, hk13, hk14⟩ := HKEEP.out _ (Below.refl _ _)
      have hR1 : Below (wr.alloc (.cells #[.int .i64 x0, .int .i64 k0, .int .i64 k1, .int .i64 k2, .slice B q f] 75)).heap.size (wr.alloc (.cells #[.int .i64 x0, .int .i64 k0, .int .i64 k1, .int .i64 k2, .slice B q f] 75)) (wr.alloc (.cells #[.int .i64 x0, .int .i64 k0, .int .i64 k1, .int .i64 k2, .slice B q f] 75)).drew := (Below.refl _ _).drew
      have HB1 := Lib.hid hb1d
      clear hat hk hx hin hb1 hb1d
      go_wp2_with ((with_reducible refine at_load_ 75 ?_); refine Ent.loadImpl rfl _ rfl b (off + k * 5) rfl _ hr ?_)
      go_region_law (first
          | (go_simp; go_at_call 97; refine HCALL.out.mono ?_; rintro e w2 ⟨⟨kk, A', n', c'⟩, he, hk', row2, hb2⟩; simp only at hk'; subst hk'; obtain rfl : e = .returned (.agg #[.int .i64 k0, .int .i64 k1, .int .i64 k2, .slice A' n' c']) := he; have row2 : Row (wr.alloc (.cells #[.int .i64 x0, .int .i64 k0, .int .i64 k1, .int .i64 k2, .slice B q f] 75)).drew.heap.size 89 2 w2 (.slice A' n' c') (sp.map Punch.lst) := row2; have hR2 := step_ hR1 (Nat.le_refl _) hb2; have hR3 := below_alloc hR2 (.cells #[.int .i64 x0, .int .i64 k0, .int .i64 k1, .int .i64 k2, .slice A' n' c'] 75); have hB2 := step_ HB1.out (Nat.le_refl _) hb2; have hB3 := below_alloc hB2 (.cells #[.int .i64 x0, .int .i64 k0, .int .i64 k1, .int .i64 k2, .slice A' n' c'] 75); have HL32 := Lib.hid ((HL3.out.below HB1.out).below hb2); have hc2 := HL32.out.range 2 _ rfl; simp only [Nat.zero_add] at hc2; have hkk2 := HKEEP.out _ hR2; obtain ⟨hk20, hk21, hk22, hk23, hk24⟩ := hkk2; have hc2b := (HL32.out.alloc (.cells #[.int .i64 x0, .int .i64 k0, .int .i64 k1, .int .i64 k2, .slice A' n' c'] 75)).range 2 _ rfl; simp only [Nat.zero_add] at hc2b; have HRO := Lib.hid (((HR.out.1.below HB1.out).below hb2).alloc (.cells #[.int .i64 x0, .int .i64 k0, .int .i64 k1, .int .i64 k2, .slice A' n' c'] 75)); have HSR := Lib.hid (Src.lit w2 75 (Ent.lst ⟨x0, ⟨⟨k0, k1, k2, sp⟩, A', n', c'⟩⟩) w2.heap.size rfl rfl (Ent.one _)))
          | (refine tyEnt.stepAppendR (by rfl) _ _ (by rfl) (w.heap.size + 1 + 1) (.slice D m d) _ (by rfl) HRO.out _ 1 1 _ (by rfl) HSR.out HLL.out (by have := hB3.size; omega) ?_; intro o4 w4 hrow4 hg4 hat4; obtain ⟨A4, c4, rfl, hc4, hm4⟩ := hrow4.parts; simp only [List.length_append, List.length_map, List.length_singleton] at hc4 hat4 hrow4 ⊢; have HL34 := Lib.hid ((HL32.out.alloc (.cells #[.int .i64 x0, .int .i64 k0, .int .i64 k1, .int .i64 k2, .slice A' n' c'] 75)).grown hg4 (fun e => HNE.out _ (.inl e) rfl)); have hc3_ := HL34.out.range 2 _ rfl; have hf3 := HL34.out.frozen; simp only [Nat.zero_add] at hc3_; have HBX4 := Lib.hid (((HBX.out.below hb2).alloc (.cells #[.int .i64 x0, .int .i64 k0, .int .i64 k1, .int .i64 k2, .slice A' n' c'] 75)).grown hg4 (fun e => by have := (HR.out.1.lt _ e).2; omega)); have hk4 := ent_keep HBX4.out; have hk5 := ent_keep (HBX4.out.setNe (q := w.heap.size + 1 + 1 + 1) (o := 2) (by omega) (.slice A4 (zs.length + 1) c4))))
      all_goals
        have hs3 := hB3.size
        have hpush := EntR.push (z := ⟨x0, ⟨⟨k0, k1, k2, sp⟩, A', n', c'⟩⟩) HR.out (by omega) hB3 (Row.alloc (Row.mono (base' := wr.heap.size) row2 (by simp)) _) hrow4 hg4 hat4
        have hn4 := entBlk_push (q := w.heap.size + 1 + 1 + 1) (v := .slice D m d) (v' := .slice A4 (zs.length + 1) c4) (zs := zs) (z := ⟨x0, ⟨⟨k0, k1, k2, sp⟩, A', n', c'⟩⟩) (hat4.imp id (fun e k hk => by rw [e] at hk; simp only [Option.some.injEq] at hk; omega)) (fun k hk => by have := (row2.lt k hk).1; simp at this; omega) HNE.out
        have HPU := Lib.hid (hpush.setNe (q := w.heap.size + 1 + 1 + 1) (o := 2) hn4 (.slice A4 (zs.length + 1) c4))
        have HN4 := Lib.hid hn4
        have HL3N := Lib.hid (HL34.out.set 2 (.slice A4 (zs.length + 1) c4))
        have HL2N := Lib.hid ((((((HL2.out.below HB1.out).below hb2).alloc (.cells #[.int .i64 x0, .int .i64 k0, .int .i64 k1, .int .i64 k2, .slice A' n' c'] 75)).grown hg4 (fun e => by have := (HR.out.1.lt _ e).1; omega))).setNe (q := w.heap.size + 1 + 1 + 1) (o := 2) (by omega) (.slice A4 (zs.length + 1) c4))
        have HBN := Lib.hid (((step_ HB.out (Nat.le_refl _) hB3).grown hg4 (Nat.le_trans HB.out.size hs3) (fun q hq => by have := (HR.out.1.lt q hq).1; omega)).setCell (p := ⟨w.heap.size + 1 + 1 + 1, 2, none⟩) (by simp <;> omega) (.slice A4 (zs.length + 1) c4))
        have hs4 := hg4.size
        clear hpush hn4 hrow4 hg4 hat4 row2 hb2 hB2 hB3 hR1 hR2 hR3 hk4 hk5 hc1 hc2 hc2b hc3_ hf3
        go_wp2
        go_roundw
        case rel => exact ⟨k + 1, zs ++ [(⟨x0, ⟨⟨k0, k1, k2, sp⟩, A', n', c'⟩⟩ : Ent)], A4, zs.length + 1, c4, by omega, by go_num, by show _ = _; simp; exact HZL.out, by show _ = _; rw [HSK.out, List.map_append, HZK.out]; rfl, HL2N.out, HL3N.out, HPU.out, HN4.out, HBN.out, by simp; omega⟩
        case measure => simp [intOf]; omega
    · obtain rfl : k = xs.length := by omega
      rw [List.take_length] at HZK
      have hm1 := HL2.out
      have hm3 := HL3.out
      have hc10 := hm1.range 0 _ rfl
      have hc11 := hm1.range 1 _ rfl
      have hc12 := hm1.range 2 _ rfl
      have hc30 := hm3.range 0 _ rfl
      have hc31 := hm3.range 1 _ rfl
      have hc32 := hm3.range 2 _ rfl
      have hf1 := hm1.frozen
      simp only [Nat.zero_add] at hc10 hc11 hc12 hc30 hc31 hc32
      clear hm1 hm3
      go_wp2
      refine bodyPost_ret (v := .agg #[.int .i64 cl, .bool cd, .slice D m d]) (by simp [results, Try.results71, go_sem, hc10, hc11, hc12]) rfl ⟨⟨cl, cd, D, m, d, zs⟩, rfl, by simp only [Race.k, HZK.out], ?_, ?_⟩
      · have h0 := HR.out
        refine EntR.mono (base := w.heap.size + 1 + 1) ?_ (by omega)
        repeat (first | (with_reducible exact h0) | (with_reducible refine EntR.setOther ?_ (by omega) _))
      · repeat (first | (with_reducible exact HB.out) | (with_reducible refine Below.setCell ?_ (by simp <;> omega) _))
end Go.Proofs.Ytfmgnbkneccekaa
