/- A step of a race, the reference's. No condition. -/
import Derived.Test.YtfmgnbkneccekaaStpF
import Derived.Deep.DeepCutAuto
import Derived.Deep.CutBlock
namespace Go.Proofs.Ytfmgnbkneccekaa
open Go Go.RowKit

theorem l21All_any (p : Race) (s : Step) (w : World) (h : p.In w) (g : GoodRace p.k) (hs : sgB p.k s = true) (hk : s.kind = 1 ∨ s.kind = 6) :
    Calls Try.prog 100 #[p.val, s.val] w fun e w' => ∃ p' : Race, e = .returned (.tuple #[.agg #[.int .i64 p'.clock, .bool p'.closed, .slice p'.a p'.n p'.c], .bool (stepB p.k s)]) ∧ Hid (stepB p.k s = true → p'.k = stepV p.k s) ∧ RaceR w.heap.size w' p' ∧ Below w.heap.size w w' := by
  rcases hk with hk | hk
  · exact l21All1 p s w h g hs hk
  · exact l21All6 p s w h g hs hk
set_option maxRecDepth 100000 in
set_option maxHeartbeats 8000000 in
theorem l21MakeA (p : Race) (s : Step) (w : World) (h : p.In w) (g : GoodRace p.k) (hs : sgB p.k s = true) (hk : s.kind = 1 ∨ s.kind = 6) :
    Calls Try.prog 76 #[p.val, s.val] w fun e w' => ∃ p' : Race, e = .returned (.tuple #[.agg #[.int .i64 p'.clock, .bool p'.closed, .slice p'.a p'.n p'.c], .bool (stepB p.k s)]) ∧ Hid (stepB p.k s = true → p'.k = stepV p.k s) ∧ RaceR w.heap.size w' p' ∧ Below w.heap.size w w' := by
  have HG := Lib.hid g
  have HSG := Lib.hid hs
  have HKD := Lib.hid hk
  have hpl := h.len
  have hpu := good_punches g
  obtain ⟨cl, cd, A, n, c, zs⟩ := p
  obtain ⟨s0, s1, s2⟩ := s
  simp only at hpl
  subst hpl
  have hl8 : 1 ≤ zs.length ∧ zs.length ≤ 8 := by
    have := inB_iff.1 g.2.1
    simp only [Race.k, List.length_map] at this
    omega
  have hcl : 0 ≤ cl ∧ cl ≤ 36000 := inB_iff.1 g.1
  have hpz : ∀ z ∈ zs, z.card.k.punches.length ≤ 12 := fun z hz => hpu z.k (List.mem_map.2 ⟨z, hz, rfl⟩)
  have hW : Below w.heap.size w (((w.alloc (.cells #[.int .i64 cl, .bool cd, .slice A zs.length c] 24)).alloc (.cells #[.int .i64 s0, .int .i64 s1, .int .i64 s2] 53)).alloc (.cells #[.int .i64 0, .bool false, .slice none 0 0] 24)) := below_alloc (below_alloc (below_alloc (Below.refl _ _) _) _) _
  have hz : (((w.alloc (.cells #[.int .i64 cl, .bool cd, .slice A zs.length c] 24)).alloc (.cells #[.int .i64 s0, .int .i64 s1, .int .i64 s2] 53)).alloc (.cells #[.int .i64 0, .bool false, .slice none 0 0] 24)).heap.size = w.heap.size + 3 := by simp
  have hl1 : LitAt (((w.alloc (.cells #[.int .i64 cl, .bool cd, .slice A zs.length c] 24)).alloc (.cells #[.int .i64 s0, .int .i64 s1, .int .i64 s2] 53)).alloc (.cells #[.int .i64 0, .bool false, .slice none 0 0] 24)) w.heap.size 24 [.int .i64 cl, .bool cd, .slice A zs.length c] := LitAt.alloc (LitAt.alloc (LitAt.new _ _ _ _ rfl) _) _
  have hl2 : LitAt (((w.alloc (.cells #[.int .i64 cl, .bool cd, .slice A zs.length c] 24)).alloc (.cells #[.int .i64 s0, .int .i64 s1, .int .i64 s2] 53)).alloc (.cells #[.int .i64 0, .bool false, .slice none 0 0] 24)) (w.heap.size + 1) 53 [.int .i64 s0, .int .i64 s1, .int .i64 s2] := LitAt.alloc (LitAt.new _ _ _ _ (by simp)) _
  have hl3 : LitAt (((w.alloc (.cells #[.int .i64 cl, .bool cd, .slice A zs.length c] 24)).alloc (.cells #[.int .i64 s0, .int .i64 s1, .int .i64 s2] 53)).alloc (.cells #[.int .i64 0, .bool false, .slice none 0 0] 24)) (w.heap.size + 1 + 1) 24 [.int .i64 0, .bool false, .slice none 0 0] := LitAt.new _ _ _ _ (by simp)
  have HB := Lib.hid hW
  have HIN := Lib.hid (h.below hW)
  have HL1 := Lib.hid hl1
  have HL2 := Lib.hid hl2
  have HL3 := Lib.hid hl3
  have HZ := Lib.hid hz
  have HOW := Lib.hid (l21Own_any ⟨cl, cd, A, zs.length, c, zs⟩ _ HIN.out (by simp only; omega) (fun z hz => by have := hpz z hz; omega))
  have HAL := Lib.hid (l21All_any ⟨cl, cd, A, zs.length, c, zs⟩ ⟨s0, s1, s2⟩ _ HIN.out HG.out HSG.out HKD.out)
  have hk2 : s0 = 1 ∨ s0 = 6 := hk
  generalize stepB (Race.k ⟨cl, cd, A, zs.length, c, zs⟩) ⟨s0, s1, s2⟩ = sb at *
  generalize stepV (Race.k ⟨cl, cd, A, zs.length, c, zs⟩) ⟨s0, s1, s2⟩ = sv at *
  clear h hl1 hl2 hl3 hpu hs hk HSG HKD HG HOW
  show Calls Try.prog 76 #[.agg #[.int .i64 cl, .bool cd, .slice A zs.length c], .agg #[.int .i64 s0, .int .i64 s1, .int .i64 s2]] w _
  rcases hk2 with rfl | rfl
  all_goals
    go_enter Try.func76, Try.ntmps76
    have l10 := HL1.out.range 0 _ rfl
    have l11 := HL1.out.range 1 _ rfl
    have l12 := HL1.out.range 2 _ rfl
    have l20 := HL2.out.range 0 _ rfl
    have l21 := HL2.out.range 1 _ rfl
    have l22 := HL2.out.range 2 _ rfl
    have l30 := HL3.out.range 0 _ rfl
    have l31 := HL3.out.range 1 _ rfl
    have l32 := HL3.out.range 2 _ rfl
    have lf3 := HL3.out.frozen
    simp only [Nat.zero_add] at l10 l11 l12 l20 l21 l22 l30 l31 l32
    go_wp2_with fail
    refine HAL.out.mono ?_
    rintro e w2 ⟨⟨cl', cd', A', n', c', zs'⟩, rfl, HE, hR', hb⟩
    have hsz := hb.size
    rw [HZ.out] at hsz hR'
    have hb3 : Below w2.heap.size w2 (w2.alloc (.cells #[.int .i64 cl', .bool cd', .slice A' n' c'] 24)) := below_alloc (Below.refl _ _) _
    clear l10 l11 l12 l20 l21 l22 l30 l31 l32 lf3
    replace HB := Lib.hid (step_ (step_ HB.out (Nat.le_refl _) hb) (Nat.le_refl _) hb3)
    replace HL3 := Lib.hid ((HL3.out.below hb).below hb3)
    have HR5 := Lib.hid (RaceR.below hR' hb3)
    have HL4 := Lib.hid (show LitAt (w2.alloc (.cells #[.int .i64 cl', .bool cd', .slice A' n' c'] 24)) w2.heap.size 24 [.int .i64 cl', .bool cd', .slice A' n' c'] from LitAt.new _ _ _ _ rfl)
    have l30 := HL3.out.range 0 _ rfl
    have l31 := HL3.out.range 1 _ rfl
    have l32 := HL3.out.range 2 _ rfl
    have lf3 := HL3.out.frozen
    have l40 := HL4.out.range 0 _ rfl
    have l41 := HL4.out.range 1 _ rfl
    have l42 := HL4.out.range 2 _ rfl
    simp only [Nat.zero_add] at l30 l31 l32 l40 l41 l42
    clear hb hb3 hR' HAL HL1 HL2 HIN hz hW
    go_wp2_with fail
    refine bodyPost_ret (v := .tuple #[.agg #[.int .i64 cl', .bool cd', .slice A' n' c'], .bool sb]) (by simp [results, Try.results76, go_sem, l30, l31, l32]) rfl ⟨⟨cl', cd', A', n', c', zs'⟩, rfl, HE, ?_, ?_⟩
    · refine RaceR.mono (base := w.heap.size + 3) ?_ (by omega)
      repeat (first | (with_reducible exact HR5.out) | (with_reducible refine RaceR.setOther ?_ (by omega) _))
    · repeat (first | (with_reducible exact HB.out) | (with_reducible refine Below.setCell ?_ (by simp <;> omega) _))
end Go.Proofs.Ytfmgnbkneccekaa
