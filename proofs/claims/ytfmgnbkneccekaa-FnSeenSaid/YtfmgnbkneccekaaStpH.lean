/- A step of an entrant, the reference's. No condition. -/
import Derived.Test.YtfmgnbkneccekaaStpG
namespace Go.Proofs.Ytfmgnbkneccekaa
open Go Go.RowKit

theorem keptOff_refl_alloc {S : Nat → Prop} {w : World} (o : Obj) : KeptOff S w (w.alloc o) := (KeptOff.refl S w).alloc o
/-- A variable's cells all known: a cell set. -/
theorem LitAt.set' {e : TypeId} {w : World} {g : Nat} {cs ds : List Value} (h : LitAt w g e cs) (j : Nat) (u : Value) (hd : cs.set j u = ds) : LitAt (w.setCell ⟨g, j, none⟩ u) g e ds := hd ▸ LitAt.set h j u
theorem Row.putNe9 {base : Nat} {e : TypeId} {sz : Nat} {w : World} {v : Value} {ys : List (List Value)} {g j : Nat} (h : Row base e sz w v ys) (hne : v.ownBlock ≠ some g) (u : Value) : Row base e sz (w.setCell ⟨g, j, none⟩ u) v ys :=
  ⟨h.1, ownsRow_setCell_other h.2 hne _⟩
set_option maxRecDepth 100000 in
set_option maxHeartbeats 8000000 in
theorem l21MakeE (p : Race) (s : Step) (w : World) (h : p.In w) (g : GoodRace p.k) (hs : sgB p.k s = true) (hk1 : s.kind ≠ 1) (hk6 : s.kind ≠ 6) :
    Calls Try.prog 76 #[p.val, s.val] w fun e w' => ∃ p' : Race, e = .returned (.tuple #[.agg #[.int .i64 p'.clock, .bool p'.closed, .slice p'.a p'.n p'.c], .bool (stepB p.k s)]) ∧ Hid (stepB p.k s = true → p'.k = stepV p.k s) ∧ RaceR w.heap.size w' p' ∧ Below w.heap.size w w' := by
  have hpl := h.len
  have hpu := good_punches g
  obtain ⟨cl, cd, A, n, c, zs⟩ := p
  obtain ⟨s0, s1, s2⟩ := s
  simp only at hpl
  subst hpl
  have hl8 : 1 ≤ zs.length ∧ zs.length ≤ 8 := by
    have := inB_iff.1 g.2.1
    simp only [Race.k, List.length_map] at this
    omega
  have hcl : 0 ≤ cl ∧ cl ≤ 36000 := inB_iff.1 g.1
  have hpz : ∀ z ∈ zs, z.card.k.punches.length ≤ 12 := fun z hz => hpu z.k (List.mem_map.2 ⟨z, hz, rfl⟩)
  have hW : Below w.heap.size w (((w.alloc (.cells #[.int .i64 cl, .bool cd, .slice A zs.length c] 24)).alloc (.cells #[.int .i64 s0, .int .i64 s1, .int .i64 s2] 53)).alloc (.cells #[.int .i64 0, .bool false, .slice none 0 0] 24)) := below_alloc (below_alloc (below_alloc (Below.refl _ _) _) _) _
  have hz : (((w.alloc (.cells #[.int .i64 cl, .bool cd, .slice A zs.length c] 24)).alloc (.cells #[.int .i64 s0, .int .i64 s1, .int .i64 s2] 53)).alloc (.cells #[.int .i64 0, .bool false, .slice none 0 0] 24)).heap.size = w.heap.size + 3 := by simp
  have hl1 : LitAt (((w.alloc (.cells #[.int .i64 cl, .bool cd, .slice A zs.length c] 24)).alloc (.cells #[.int .i64 s0, .int .i64 s1, .int .i64 s2] 53)).alloc (.cells #[.int .i64 0, .bool false, .slice none 0 0] 24)) w.heap.size 24 [.int .i64 cl, .bool cd, .slice A zs.length c] := LitAt.alloc (LitAt.alloc (LitAt.new _ _ _ _ rfl) _) _
  have hl2 : LitAt (((w.alloc (.cells #[.int .i64 cl, .bool cd, .slice A zs.length c] 24)).alloc (.cells #[.int .i64 s0, .int .i64 s1, .int .i64 s2] 53)).alloc (.cells #[.int .i64 0, .bool false, .slice none 0 0] 24)) (w.heap.size + 1) 53 [.int .i64 s0, .int .i64 s1, .int .i64 s2] := LitAt.alloc (LitAt.new _ _ _ _ (by simp)) _
  have hl3 : LitAt (((w.alloc (.cells #[.int .i64 cl, .bool cd, .slice A zs.length c] 24)).alloc (.cells #[.int .i64 s0, .int .i64 s1, .int .i64 s2] 53)).alloc (.cells #[.int .i64 0, .bool false, .slice none 0 0] 24)) (w.heap.size + 1 + 1) 24 [.int .i64 0, .bool false, .slice none 0 0] := LitAt.new _ _ _ _ (by simp)
  have HB := Lib.hid hW
  have HIN := Lib.hid (h.below hW)
  have HL1 := Lib.hid hl1
  have HL2 := Lib.hid hl2
  have HL3 := Lib.hid hl3
  have HZ := Lib.hid hz
  have HOW := Lib.hid (l21Own_any ⟨cl, cd, A, zs.length, c, zs⟩ _ HIN.out (by simp only; omega) (fun z hz => by have := hpz z hz; omega))
  have h1 : s0 ≠ 1 := hk1
  have h6 : s0 ≠ 6 := hk6
  have hsg : (2 ≤ s0 ∧ s0 ≤ 5) ∧ (0 ≤ s1 ∧ s1 ≤ (zs.length : Int) - 1) ∧ (s0 ≠ 3 → s2 = 0) ∧ (s0 = 3 → inB s2 31 99 = true) := by
    unfold sgB at hs
    simp only [if_neg h1, if_neg h6] at hs
    by_cases h3 : s0 = 3
    · simp only [if_pos h3, Bool.and_eq_true, inB_iff, Race.k, List.length_map] at hs
      exact ⟨by omega, hs.1, fun h => absurd h3 h, fun _ => inB_iff.2 hs.2⟩
    · simp only [if_neg h3, Bool.and_eq_true, inB_iff, Race.k, List.length_map, beq_iff_eq] at hs
      exact ⟨hs.1.1, hs.1.2, fun _ => hs.2, fun h => absurd h h3⟩
  obtain ⟨hk25, hs1, hs2, hs3⟩ := hsg
  obtain ⟨i, rfl⟩ : ∃ i : Nat, s1 = i := ⟨s1.toNat, by omega⟩
  have hi : i < zs.length := by omega
  have HVB := Lib.hid (show stepB (Race.k ⟨cl, cd, A, zs.length, c, zs⟩) ⟨s0, (i : Int), s2⟩ = entStepB zs[i].k ⟨s0, (i : Int), s2⟩ from by
    have : stepB (Race.k ⟨cl, cd, A, zs.length, c, zs⟩) ⟨s0, (i : Int), s2⟩ = entB (Race.k ⟨cl, cd, A, zs.length, c, zs⟩) ⟨s0, (i : Int), s2⟩ := by simp [stepB, h1, h6]
    rw [this]
    exact entB_at (p := ⟨cl, cd, A, zs.length, c, zs⟩) hi rfl)
  have HSV := Lib.hid (show stepV (Race.k ⟨cl, cd, A, zs.length, c, zs⟩) ⟨s0, (i : Int), s2⟩ = entV (Race.k ⟨cl, cd, A, zs.length, c, zs⟩) ⟨s0, (i : Int), s2⟩ from by simp [stepV, h1, h6])
  have n1 : (s0 == 1) = false := by simpa using h1
  have n6 : (s0 == 6) = false := by simpa using h6
  have hp12 := hpz zs[i] (List.getElem_mem hi)
  clear h hl1 hl2 hl3 hpu hs hk1 hk6 g
  show Calls Try.prog 76 #[.agg #[.int .i64 cl, .bool cd, .slice A zs.length c], .agg #[.int .i64 s0, .int .i64 i, .int .i64 s2]] w _
  go_enter Try.func76, Try.ntmps76
  have l10 := HL1.out.range 0 _ rfl
  have l11 := HL1.out.range 1 _ rfl
  have l12 := HL1.out.range 2 _ rfl
  have l20 := HL2.out.range 0 _ rfl
  have l21 := HL2.out.range 1 _ rfl
  have l22 := HL2.out.range 2 _ rfl
  have l30 := HL3.out.range 0 _ rfl
  have l31 := HL3.out.range 1 _ rfl
  have l32 := HL3.out.range 2 _ rfl
  have lf3 := HL3.out.frozen
  simp only [Nat.zero_add] at l10 l11 l12 l20 l21 l22 l30 l31 l32
  go_wp2_with fail
  refine HOW.out.mono ?_
  rintro e w2 ⟨⟨cl', cd', A', n', c', zs'⟩, he, hk', hR', hb⟩
  obtain rfl : e = .returned (.agg #[.int .i64 cl', .bool cd', .slice A' n' c']) := he
  have hsz := hb.size
  rw [HZ.out] at hsz hR'
  have hb3 : ∀ x y, Below w2.heap.size w2 (w2.alloc (.cells #[.int .i64 x, .bool y, .slice A' n' c'] 24)) := fun x y => below_alloc (Below.refl _ _) _
  have HRF := Lib.hid (show ∀ x y, RaceAt (w.heap.size + 3) (w2.alloc (.cells #[.int .i64 x, .bool y, .slice A' n' c'] 24)) w2.heap.size ⟨x, y, A', n', c', zs'⟩ from
    fun x y => ⟨LitAt.new w2 24 [.int .i64 x, .bool y, .slice A' n' c'] _ rfl, EntR.below hR' (hb3 x y), fun q hq => by have := (RaceR.lt hR' q hq).2; omega⟩)
  have HBF := Lib.hid (fun x y => step_ (step_ HB.out (Nat.le_refl _) hb) (Nat.le_refl _) (hb3 x y))
  clear l10 l11 l12 l20 l21 l22 l30 l31 l32 lf3
  have HF1 := Lib.hid (fun x y => (HL1.out.below hb).below (hb3 x y))
  have HF2 := Lib.hid (fun x y => (HL2.out.below hb).below (hb3 x y))
  have HF3 := Lib.hid (fun x y => (HL3.out.below hb).below (hb3 x y))
  have HFI := Lib.hid (fun x y => (HIN.out.below hb).below (hb3 x y))
  have hn' : n' = zs'.length := (HRF.out cl' cd').len
  subst hn'
  simp only [Race.k, RaceK.mk.injEq] at hk'
  obtain ⟨rfl, rfl, hkz⟩ := hk'
  have HZL := Lib.hid (show zs'.length = zs.length by have := congrArg List.length hkz; simpa using this)
  have hszA : w.heap.size + 3 ≤ w2.heap.size := hsz
  have HBL := Lib.hid (show ∀ k, EntBlk (.slice A' zs'.length c') zs' k → k < w2.heap.size from fun k hk => (RaceR.lt hR' k hk).2)
  clear hb hb3 hR' HOW hz hsz HL1 HL2 HL3 HB HIN
  have hz8 : zs'.length ≤ 8 := by have := HZL.out; omega
  have hiz : i < zs'.length := by have := HZL.out; omega
  have HKK := Lib.hid (show Race.k ⟨cl', cd', A, zs.length, c, zs⟩ = Race.k ⟨cl', cd', A', zs'.length, c', zs'⟩ from by simp only [Race.k, hkz])
  have hzk : zs'[i].k = zs[i].k := by
    have h1 : (zs'.map Ent.k)[i]? = (zs.map Ent.k)[i]? := by rw [hkz]
    simpa [hiz, hi] using h1
  rw [← hzk] at HVB
  have hp13 : zs'[i].card.k.punches.length ≤ 12 := by
    have := congrArg (fun e : EntK => e.card.punches.length) hzk
    simp only [Ent.k] at this
    omega
  clear hkz hzk hp12 hpz
  have HRA := Lib.hid (HRF.out cl' cd')
  have HB := Lib.hid (HBF.out cl' cd')
  have HL1 := Lib.hid (HF1.out cl' cd')
  have HL2 := Lib.hid (HF2.out cl' cd')
  have HL3 := Lib.hid (HF3.out cl' cd')
  obtain ⟨r0, r1, r2, rf⟩ := HRA.out.cells
  simp only at r0 r1 r2
  have l10 := HL1.out.range 0 _ rfl
  have l11 := HL1.out.range 1 _ rfl
  have l12 := HL1.out.range 2 _ rfl
  have l20 := HL2.out.range 0 _ rfl
  have l21 := HL2.out.range 1 _ rfl
  have l22 := HL2.out.range 2 _ rfl
  have l30 := HL3.out.range 0 _ rfl
  have l31 := HL3.out.range 1 _ rfl
  have l32 := HL3.out.range 2 _ rfl
  have lf3 := HL3.out.frozen
  simp only [Nat.zero_add] at l10 l11 l12 l20 l21 l22 l30 l31 l32
  obtain ⟨q, rfl, -, hBq, hqw, hcz, hqg⟩ := HRA.out.form (by omega)
  have hcm : c' ≤ 9223372036854775807 := by
    obtain ⟨_, _, h1, h2, h3⟩ := HRA.out.2.1.1.parts
    simp only [Race.sv, Value.slice.injEq] at h1
    omega
  obtain ⟨z, hzz⟩ : ∃ z, zs'[i] = z := ⟨_, rfl⟩
  obtain ⟨e0, e1, e2, e3, e4, ef⟩ := EntR.cells' HRA.out.2.1 hiz hzz
  rw [hzz] at HVB hp13
  have HZZ := Lib.hid hzz
  clear hzz
  obtain ⟨st, ⟨⟨k0, k1, k2, sp⟩, D, m, d⟩⟩ := z
  simp only at e0 e1 e2 e3 e4 hp13
  have hba : Below (w2.alloc (.cells #[.int .i64 cl', .bool cd', .slice (some ⟨q, 0, none⟩) zs'.length c'] 24)).heap.size (w2.alloc (.cells #[.int .i64 cl', .bool cd', .slice (some ⟨q, 0, none⟩) zs'.length c'] 24)) ((w2.alloc (.cells #[.int .i64 cl', .bool cd', .slice (some ⟨q, 0, none⟩) zs'.length c'] 24)).alloc (.cells #[.int .i64 st, .int .i64 k0, .int .i64 k1, .int .i64 k2, .slice D m d] 75)) := below_alloc (Below.refl _ _) _
  have HRA2 := Lib.hid (HRA.out.below hba)
  have HL9 := Lib.hid (show LitAt ((w2.alloc (.cells #[.int .i64 cl', .bool cd', .slice (some ⟨q, 0, none⟩) zs'.length c'] 24)).alloc (.cells #[.int .i64 st, .int .i64 k0, .int .i64 k1, .int .i64 k2, .slice D m d] 75)) (w2.heap.size + 1) 75 [.int .i64 st, .int .i64 k0, .int .i64 k1, .int .i64 k2, .slice D m d] from LitAt.new _ _ _ _ (by simp))
  have HL12 := Lib.hid (HL1.out.below hba)
  have HL22 := Lib.hid (HL2.out.below hba)
  have HL32 := Lib.hid (HL3.out.below hba)
  have HB2 := Lib.hid (step_ HB.out (Nat.le_refl _) hba)
  obtain ⟨g0, g1, g2, g3, g4⟩ := ent_keep HL9.out
  have gf := HL9.out.frozen
  have hwz : ((w2.alloc (.cells #[.int .i64 cl', .bool cd', .slice (some ⟨q, 0, none⟩) zs'.length c'] 24)).alloc (.cells #[.int .i64 st, .int .i64 k0, .int .i64 k1, .int .i64 k2, .slice D m d] 75)).heap.size = w2.heap.size + 2 := by simp
  have m10 := HL12.out.range 0 _ rfl
  have m20 := HL22.out.range 0 _ rfl
  have m21 := HL22.out.range 1 _ rfl
  have m22 := HL22.out.range 2 _ rfl
  simp only [Nat.zero_add] at m10 m20 m21 m22
  have HWZ := Lib.hid hwz
  clear hwz hba HRF HBF HF1 HF2 HF3 HFI
  go_upto_block 0 with fail
  clear l10 l11 l12 l20 l21 l22 l30 l31 l32 lf3 r0 r1 r2 rf e0 e1 e2 e3 e4 ef HRA HB HL1 HL2 HL3
  generalize (w2.alloc (.cells #[.int .i64 cl', .bool cd', .slice (some ⟨q, 0, none⟩) zs'.length c'] 24)).alloc (.cells #[.int .i64 st, .int .i64 k0, .int .i64 k1, .int .i64 k2, .slice D m d] 75) = WW at *
  have HIW := Lib.hid (show Row (w.heap.size + 3) 89 2 WW (.slice D m d) (sp.map Punch.lst) ∧ ((Value.slice D m d).ownBlock = none ∨ (Value.slice D m d).ownBlock ≠ some q) from by
    have h1 := HRA2.out.2.1.2.1 zs'[i] (List.getElem_mem hiz)
    rw [HZZ.out] at h1
    exact h1)
  have HOB := Lib.hid (show ∀ k, (Value.slice D m d).ownBlock = some k → w.heap.size + 3 ≤ k ∧ k < w2.heap.size from fun k hk => ⟨(HIW.out.1.lt k hk).1, HBL.out k (.inr ⟨zs'[i], List.getElem_mem hiz, by rw [HZZ.out]; exact hk⟩)⟩)
  have hml : m = sp.length := by
    obtain ⟨_, _, h1, _⟩ := HIW.out.1.parts
    simp only [Value.slice.injEq, List.length_map] at h1
    exact h1.2.1
  subst hml
  obtain ⟨hd1, hd2⟩ : sp.length ≤ d ∧ d ≤ 9223372036854775807 := by
    obtain ⟨_, _, h1, h2, h3⟩ := HIW.out.1.parts
    simp only [Value.slice.injEq, List.length_map] at h1 h2
    omega
  have HK9 := Lib.hid (KeptOff.refl (fun k => (Value.slice D sp.length d).ownBlock = some k ∨ k = w2.heap.size + 1) WW)
  go_cut [10] (fun okv wx => ∃ z' : Ent, okv = .bool (entStepB (Ent.k ⟨st, ⟨⟨k0, k1, k2, sp⟩, D, sp.length, d⟩⟩) ⟨s0, (i : Int), s2⟩) ∧ Hid (entStepB (Ent.k ⟨st, ⟨⟨k0, k1, k2, sp⟩, D, sp.length, d⟩⟩) ⟨s0, (i : Int), s2⟩ = true → z'.k = entStepV cl' i (Ent.k ⟨st, ⟨⟨k0, k1, k2, sp⟩, D, sp.length, d⟩⟩) ⟨s0, (i : Int), s2⟩) ∧ Hid (LitAt wx (w2.heap.size + 1) 75 z'.lst) ∧ Hid (Row (w.heap.size + 3) 89 2 wx z'.card.sv (z'.card.k.punches.map Punch.lst)) ∧ Hid (KeptOff (fun k => (Value.slice D sp.length d).ownBlock = some k ∨ k = w2.heap.size + 1) WW wx) ∧ Hid (z'.card.sv.ownBlock = (Value.slice D sp.length d).ownBlock ∨ ∀ k, z'.card.sv.ownBlock = some k → WW.heap.size ≤ k))
  case first =>
    by_cases h2 : s0 = 2
    · subst h2
      obtain rfl := hs2 (by decide)
      have HT := Lib.hid (show entStepB (Ent.k ⟨st, ⟨⟨k0, k1, k2, sp⟩, D, sp.length, d⟩⟩) ⟨2, (i : Int), 0⟩ = (st == 0) from by simp [entStepB, Ent.k])
      have hwr : IntKind.i64.wrap ((i : Int) + 1) = (i : Int) + 1 := by rw [IntKind.wrap_i64]; omega
      obtain ⟨ga0, ga1, ga2, ga3, ga4⟩ := ent_keep (HL9.out.alloc (.cells #[] 89))
      have gaf := (HL9.out.alloc (.cells #[] 89)).frozen
      go_wp2_with fail
      go_meet
      refine ⟨⟨1, ⟨⟨(i : Int) + 1, cl', -1, []⟩, some ⟨WW.heap.size, 0, none⟩, 0, 0⟩⟩, by rw [HT.out], (show _ → _ from fun _ => rfl), ?_, ?_, ?_, .inr (fun k hk => by simp [Card.sv, Value.ownBlock] at hk; omega)⟩
      · exact (((((HL9.out.alloc (.cells #[] 89)).set 0 (.int .i64 1)).set 1 (.int .i64 ((i : Int) + 1))).set 2 (.int .i64 cl')).set 3 (.int .i64 (-1))).set 4 (.slice (some ⟨WW.heap.size, 0, none⟩) 0 0)
      · have hne : ∀ x : Unit, (Value.slice (some ⟨WW.heap.size, 0, none⟩) 0 0).ownBlock ≠ some (w2.heap.size + 1) := fun _ e => by have := HWZ.out; simp [Value.ownBlock] at e; omega
        exact Row.putNe9 (Row.putNe9 (Row.putNe9 (Row.putNe9 (Row.putNe9 (Row.lit_nil WW 89 2 (base := w.heap.size + 3) (by have := HWZ.out; omega)) (hne ()) _) (hne ()) _) (hne ()) _) (hne ()) _) (hne ()) _
      · exact ((((((HK9.out.alloc _).setCell (.inr rfl) _).setCell (.inr rfl) _).setCell (.inr rfl) _).setCell (.inr rfl) _).setCell (.inr rfl) _)
    have n2 : (s0 == 2) = false := by simpa using h2
    by_cases h3 : s0 = 3
    · subst h3
      have HT := Lib.hid (show entStepB (Ent.k ⟨st, ⟨⟨k0, k1, k2, sp⟩, D, sp.length, d⟩⟩) ⟨3, (i : Int), s2⟩ = (st == 1 && decide (sp.length < 12)) from by
        have h31 := hs3 rfl
        show (if (3 : Int) = 2 then st == 0 && s2 == 0 else if (3 : Int) = 3 then st == 1 && inB s2 31 99 && decide (sp.length < 12) else _) = _
        rw [if_neg (by decide), if_pos rfl, h31, Bool.and_true])
      have HRO := Lib.hid (HIW.out.1.alloc (.cells #[.int .i64 s2, .int .i64 cl'] 89))
      have HSR := Lib.hid (Src.lit WW 89 (Punch.lst ⟨s2, cl'⟩) WW.heap.size rfl rfl (Punch.one _))
      have HLL := Lib.hid (show (sp.map Punch.lst).length + 1 ≤ 2147483648 by simp; omega)
      have HSZ := Lib.hid (show w.heap.size + 3 ≤ (WW.alloc (.cells #[.int .i64 s2, .int .i64 cl'] 89)).heap.size by have := HWZ.out; simp; omega)
      have HEQ := Lib.hid (show ∀ b : Bool, (st == 1 && decide (sp.length < 12)) = b → entStepB (Ent.k ⟨st, ⟨⟨k0, k1, k2, sp⟩, D, sp.length, d⟩⟩) ⟨3, (i : Int), s2⟩ = b from fun b h => HT.out.trans h)
      have HNE := Lib.hid (show (Value.slice D sp.length d).ownBlock ≠ some (w2.heap.size + 1) from fun e => by have := (HOB.out _ e).2; omega)
      have HL9A := Lib.hid (HL9.out.alloc (.cells #[.int .i64 s2, .int .i64 cl'] 89))
      by_cases hst : st = 1
      · subst hst
        by_cases hln : sp.length < 12
        · have hlni : (sp.length : Int) < 12 := by omega
          have HT2 := Lib.hid (HT.out.trans (show ((1 : Int) == 1 && decide (sp.length < 12)) = true by simp [hln]))
          go_wp2_with (at_builtin; refine tyPunch.append rfl _ _ rfl (w.heap.size + 3) (.slice D sp.length d) _ rfl HRO.out _ 1 1 _ rfl HSR.out HLL.out HSZ.out ?_; intro o7 w7 hrow7 hg7 hat7; obtain ⟨A4, c4, rfl, hc4, hm4⟩ := hrow7.parts; simp only [List.length_append, List.length_map, List.length_singleton] at hc4 hat7 hrow7 ⊢; have HL97 := Lib.hid (HL9A.out.grown hg7 HNE.out); obtain ⟨ga0, ga1, ga2, ga3, ga4⟩ := ent_keep HL97.out; have gaf := HL97.out.frozen)
          go_meet
          have HAT := Lib.hid (show (Value.slice A4 (sp.length + 1) c4).ownBlock = (Value.slice D sp.length d).ownBlock ∨ ∀ k, (Value.slice A4 (sp.length + 1) c4).ownBlock = some k → WW.heap.size ≤ k from hat7.imp id (fun e k hk => by rw [e] at hk; simp at hk; omega))
          refine ⟨⟨1, ⟨⟨k0, k1, k2, sp ++ [⟨s2, cl'⟩]⟩, A4, sp.length + 1, c4⟩⟩, by rw [HT2.out], (show _ → _ from fun _ => rfl), ?_, ?_, ?_, HAT.out⟩
          · exact HL97.out.set 4 (.slice A4 (sp.length + 1) c4)
          · have h1 := Row.putNe9 (g := w2.heap.size + 1) (j := 4) hrow7 (fun e => by rcases HAT.out with h | h; (exact HNE.out (h.symm.trans e)); (have := h _ e; have := HWZ.out; omega)) (.slice A4 (sp.length + 1) c4)
            show Row (w.heap.size + 3) 89 2 _ (.slice A4 (sp.length + 1) c4) ((sp ++ [(⟨s2, cl'⟩ : Punch)]).map Punch.lst)
            simpa [Punch.lst] using h1
          · exact (((HK9.out.alloc _).trans (KeptOff.of_grown hg7 (fun k e => .inl e)))).setCell (.inr rfl) _
        · have hlni : ¬ (sp.length : Int) < 12 := by omega
          have HT2 := Lib.hid (HT.out.trans (show ((1 : Int) == 1 && decide (sp.length < 12)) = false by simp [hln]))
          go_wp2_with (at_builtin; refine tyPunch.append rfl _ _ rfl (w.heap.size + 3) (.slice D sp.length d) _ rfl HRO.out _ 1 1 _ rfl HSR.out HLL.out HSZ.out ?_; intro o7 w7 hrow7 hg7 hat7; obtain ⟨A4, c4, rfl, hc4, hm4⟩ := hrow7.parts; simp only [List.length_append, List.length_map, List.length_singleton] at hc4 hat7 hrow7 ⊢; have HL97 := Lib.hid (HL9A.out.grown hg7 HNE.out); obtain ⟨ga0, ga1, ga2, ga3, ga4⟩ := ent_keep HL97.out; have gaf := HL97.out.frozen)
          go_meet
          have HAT := Lib.hid (show (Value.slice A4 (sp.length + 1) c4).ownBlock = (Value.slice D sp.length d).ownBlock ∨ ∀ k, (Value.slice A4 (sp.length + 1) c4).ownBlock = some k → WW.heap.size ≤ k from hat7.imp id (fun e k hk => by rw [e] at hk; simp at hk; omega))
          refine ⟨⟨1, ⟨⟨k0, k1, k2, sp ++ [⟨s2, cl'⟩]⟩, A4, sp.length + 1, c4⟩⟩, by rw [HT2.out], (show _ → _ from fun _ => rfl), ?_, ?_, ?_, HAT.out⟩
          · exact HL97.out.set 4 (.slice A4 (sp.length + 1) c4)
          · have h1 := Row.putNe9 (g := w2.heap.size + 1) (j := 4) hrow7 (fun e => by rcases HAT.out with h | h; (exact HNE.out (h.symm.trans e)); (have := h _ e; have := HWZ.out; omega)) (.slice A4 (sp.length + 1) c4)
            show Row (w.heap.size + 3) 89 2 _ (.slice A4 (sp.length + 1) c4) ((sp ++ [(⟨s2, cl'⟩ : Punch)]).map Punch.lst)
            simpa [Punch.lst] using h1
          · exact (((HK9.out.alloc _).trans (KeptOff.of_grown hg7 (fun k e => .inl e)))).setCell (.inr rfl) _
      · have hst' : (st == 1) = false := by simpa using hst
        have HT2 := Lib.hid (HT.out.trans (show (st == 1 && decide (sp.length < 12)) = false by simp [hst]))
        clear hst
        go_wp2_with (at_builtin; refine tyPunch.append rfl _ _ rfl (w.heap.size + 3) (.slice D sp.length d) _ rfl HRO.out _ 1 1 _ rfl HSR.out HLL.out HSZ.out ?_; intro o7 w7 hrow7 hg7 hat7; obtain ⟨A4, c4, rfl, hc4, hm4⟩ := hrow7.parts; simp only [List.length_append, List.length_map, List.length_singleton] at hc4 hat7 hrow7 ⊢; have HL97 := Lib.hid (HL9A.out.grown hg7 HNE.out); obtain ⟨ga0, ga1, ga2, ga3, ga4⟩ := ent_keep HL97.out; have gaf := HL97.out.frozen)
        go_meet
        have HAT := Lib.hid (show (Value.slice A4 (sp.length + 1) c4).ownBlock = (Value.slice D sp.length d).ownBlock ∨ ∀ k, (Value.slice A4 (sp.length + 1) c4).ownBlock = some k → WW.heap.size ≤ k from hat7.imp id (fun e k hk => by rw [e] at hk; simp at hk; omega))
        refine ⟨⟨st, ⟨⟨k0, k1, k2, sp ++ [⟨s2, cl'⟩]⟩, A4, sp.length + 1, c4⟩⟩, by rw [HT2.out], (show _ → _ from fun _ => rfl), ?_, ?_, ?_, HAT.out⟩
        · exact HL97.out.set 4 (.slice A4 (sp.length + 1) c4)
        · have h1 := Row.putNe9 (g := w2.heap.size + 1) (j := 4) hrow7 (fun e => by rcases HAT.out with h | h; (exact HNE.out (h.symm.trans e)); (have := h _ e; have := HWZ.out; omega)) (.slice A4 (sp.length + 1) c4)
          show Row (w.heap.size + 3) 89 2 _ (.slice A4 (sp.length + 1) c4) ((sp ++ [(⟨s2, cl'⟩ : Punch)]).map Punch.lst)
          simpa [Punch.lst] using h1
        · exact (((HK9.out.alloc _).trans (KeptOff.of_grown hg7 (fun k e => .inl e)))).setCell (.inr rfl) _
    have n3 : (s0 == 3) = false := by simpa using h3
    by_cases h4 : s0 = 4
    · subst h4
      obtain rfl := hs2 (by decide)
      have HT := Lib.hid (show entStepB (Ent.k ⟨st, ⟨⟨k0, k1, k2, sp⟩, D, sp.length, d⟩⟩) ⟨4, (i : Int), 0⟩ = (st == 1) from by simp [entStepB, Ent.k])
      go_wp2_with fail
      go_meet
      refine ⟨⟨2, ⟨⟨k0, k1, cl', sp⟩, D, sp.length, d⟩⟩, by rw [HT.out], (show _ → _ from fun _ => rfl), ?_, ?_, ?_, .inl rfl⟩
      · exact (HL9.out.set 0 (.int .i64 2)).set 3 (.int .i64 cl')
      · exact Row.putNe9 (Row.putNe9 HIW.out.1 (fun e => by have := (HOB.out _ e).2; omega) _) (fun e => by have := (HOB.out _ e).2; omega) _
      · exact (HK9.out.setCell (.inr rfl) _).setCell (.inr rfl) _
    have n4 : (s0 == 4) = false := by simpa using h4
    obtain rfl : s0 = 5 := by omega
    obtain rfl := hs2 (by decide)
    have HT := Lib.hid (show entStepB (Ent.k ⟨st, ⟨⟨k0, k1, k2, sp⟩, D, sp.length, d⟩⟩) ⟨5, (i : Int), 0⟩ = (st == 1) from by simp [entStepB, Ent.k])
    go_wp2_with fail
    go_meet
    refine ⟨⟨3, ⟨⟨k0, k1, k2, sp⟩, D, sp.length, d⟩⟩, by rw [HT.out], (show _ → _ from fun _ => rfl), ?_, ?_, ?_, .inl rfl⟩
    · exact HL9.out.set 0 (.int .i64 3)
    · exact Row.putNe9 HIW.out.1 (fun e => by have := (HOB.out _ e).2; omega) _
    · exact HK9.out.setCell (.inr rfl) _
  case rest =>
    clear g0 g1 g2 g3 g4 gf m10 m20 m21 m22 HL9 HK9
    obtain ⟨z', rfl, HV2, HL9, HIN, HK, HAT⟩ := hcut
    obtain ⟨x0, ⟨⟨y0, y1, y2, ps⟩, D', m', d'⟩⟩ := z'
    have HQ := Lib.hid (show (Value.slice D sp.length d).ownBlock ≠ some q from by
      rcases HIW.out.2 with h | h
      · rw [h]; simp
      · exact h)
    have hqw2 : q < w2.heap.size := HBL.out q (.inl rfl)
    have HRWX := Lib.hid (show Row (w.heap.size + 3) 75 5 wc (.slice (some ⟨q, 0, none⟩) zs'.length c') (zs'.map Ent.lst) from Row.keptOff HRA2.out.2.1.1 HK.out (fun k hk hs => by
      have hkq : q = k := by simpa [Race.sv, Value.ownBlock] using hk
      subst hkq
      rcases hs with h | h
      · exact HQ.out h
      · omega))
    have hnn : ∀ k, k < w.heap.size + 3 → ¬ ((Value.slice D sp.length d).ownBlock = some k ∨ k = w2.heap.size + 1) := fun k hk hs => by
      rcases hs with h | h
      · have := (HOB.out _ h).1; omega
      · omega
    have HL2X := Lib.hid (HL22.out.keptOff HK.out (hnn _ (by omega)))
    have HL3X := Lib.hid (HL32.out.keptOff HK.out (hnn _ (by omega)))
    have HGX := Lib.hid (HRA2.out.1.keptOff HK.out (fun hs => by
      rcases hs with h | h
      · exact HRA2.out.2.2 _ (.inr ⟨zs'[i], List.getElem_mem hiz, by rw [HZZ.out]; exact h⟩) rfl
      · omega))
    have HBX := Lib.hid (below_keptOff HB2.out HK.out (fun k hs => by
      rcases hs with h | h
      · have := (HOB.out _ h).1; omega
      · omega) (by have := HWZ.out; omega))
    obtain ⟨g0, g1, g2, g3, g4⟩ := ent_keep HL9.out
    have r0 := HGX.out.range 0 _ rfl
    have r1 := HGX.out.range 1 _ rfl
    have r2 := HGX.out.range 2 _ rfl
    have l21 := HL2X.out.range 1 _ rfl
    have l30 := HL3X.out.range 0 _ rfl
    have l31 := HL3X.out.range 1 _ rfl
    have l32 := HL3X.out.range 2 _ rfl
    have lf3 := HL3X.out.frozen
    simp only [Nat.zero_add] at r0 r1 r2 l21 l30 l31 l32
    have HGI := Lib.hid (show (zs'.map Ent.lst)[i]'(by simpa using hiz) = Ent.lst ⟨st, ⟨⟨k0, k1, k2, sp⟩, D, sp.length, d⟩⟩ by simp [HZZ.out])
    have her := HRWX.out.range (k := i) (by simpa using hiz)
    rw [HGI.out] at her
    obtain ⟨e0, e1, e2, e3, e4⟩ := Ent.cells her
    simp only at e0 e1 e2 e3 e4
    have ef := HRWX.out.frozen
    have hr1 := HRWX.out.stored (k := i) (j := 0) (by simpa using hiz) (by omega) (.int .i64 x0)
    have hr2 := hr1.1.stored (k := i) (j := 1) (by simpa using hiz) (by omega) (.int .i64 y0)
    have hr3 := hr2.1.stored (k := i) (j := 2) (by simpa using hiz) (by omega) (.int .i64 y1)
    have hr4 := hr3.1.stored (k := i) (j := 3) (by simpa using hiz) (by omega) (.int .i64 y2)
    have hr5 := hr4.1.stored (k := i) (j := 4) (by simpa using hiz) (by omega) (.slice D' m' d')
    have hg5 := grown_trans (grown_trans (grown_trans (grown_trans hr1.2 hr2.2) hr3.2) hr4.2) hr5.2
    have HZQ := Lib.hid (show (Value.slice D' m' d').ownBlock = none ∨ (Value.slice D' m' d').ownBlock ≠ some q from by
      rcases HAT.out with h | h
      · exact .inr (by rw [show (Value.slice D' m' d').ownBlock = _ from h]; exact HQ.out)
      · exact .inr (fun e => by have := h q e; have := HWZ.out; omega))
    have HRF := Lib.hid (HRA2.out.exchX (X := fun k => k = w2.heap.size + 1) hiz ⟨x0, ⟨⟨y0, y1, y2, ps⟩, D', m', d'⟩⟩ (HIN.out.kept hg5 HZQ.out)
      ((HK.out.mono (fun k hk => by rcases hk with h | h; exact .inl (.inr (by rw [HZZ.out]; exact h)); exact .inr h)).trans (KeptOff.of_grown hg5 (fun k e => .inl (.inl (Option.some.inj e).symm))))
      (fun k hk => ⟨by omega, fun hb => by have := HBL.out k hb; omega⟩) (by rw [HZZ.out]; exact HAT.out) (by
        have h5 := hr5.1
        simpa [HGI.out, Ent.lst] using h5))
    have HR5 := Lib.hid (show RaceR (w.heap.size + 3) (((((wc.setCell ⟨q, i * 5, none⟩ (.int .i64 x0)).setCell ⟨q, i * 5 + 1, none⟩ (.int .i64 y0)).setCell ⟨q, i * 5 + 2, none⟩ (.int .i64 y1)).setCell ⟨q, i * 5 + 3, none⟩ (.int .i64 y2)).setCell ⟨q, i * 5 + 4, none⟩ (.slice D' m' d')) ⟨cl', cd', some ⟨q, 0, none⟩, zs'.length, c', zs'.set i ⟨x0, ⟨⟨y0, y1, y2, ps⟩, D', m', d'⟩⟩⟩ from HRF.out.2.1)
    have HB5 := Lib.hid (((((HBX.out.setCell (p := ⟨q, i * 5, none⟩) (by simp; omega) (.int .i64 x0)).setCell (p := ⟨q, i * 5 + 1, none⟩) (by simp; omega) (.int .i64 y0)).setCell (p := ⟨q, i * 5 + 2, none⟩) (by simp; omega) (.int .i64 y1)).setCell (p := ⟨q, i * 5 + 3, none⟩) (by simp; omega) (.int .i64 y2)).setCell (p := ⟨q, i * 5 + 4, none⟩) (by simp; omega) (.slice D' m' d'))
    have HEF := Lib.hid (show stepB (Race.k ⟨cl', cd', A, zs.length, c, zs⟩) ⟨s0, (i : Int), s2⟩ = true → Race.k ⟨cl', cd', some ⟨q, 0, none⟩, zs'.length, c', zs'.set i ⟨x0, ⟨⟨y0, y1, y2, ps⟩, D', m', d'⟩⟩⟩ = stepV (Race.k ⟨cl', cd', A, zs.length, c, zs⟩) ⟨s0, (i : Int), s2⟩ from fun ht => by
      rw [HSV.out, HKK.out]
      refine entV_at hiz rfl ?_
      rw [HZZ.out]
      exact HV2.out (HVB.out.symm.trans ht))
    clear hr1 hr2 hr3 hr4 hr5 hg5 her
    generalize entStepB (Ent.k ⟨st, ⟨⟨k0, k1, k2, sp⟩, D, sp.length, d⟩⟩) ⟨s0, (i : Int), s2⟩ = okb at HVB ⊢
    go_wp2_with fail
    refine bodyPost_ret (v := .tuple #[.agg #[.int .i64 cl', .bool cd', .slice (some ⟨q, 0, none⟩) zs'.length c'], .bool okb]) (by simp [results, Try.results76, go_sem, l30, l31, l32, r0, r1, r2]) rfl ⟨⟨cl', cd', some ⟨q, 0, none⟩, zs'.length, c', zs'.set i ⟨x0, ⟨⟨y0, y1, y2, ps⟩, D', m', d'⟩⟩⟩, by rw [HVB.out], HEF.out, ?_, ?_⟩
    · refine RaceR.mono (base := w.heap.size + 3) ?_ (by omega)
      repeat (first | (with_reducible exact HR5.out) | (with_reducible refine RaceR.setOther ?_ (by omega) _))
    · repeat (first | (with_reducible exact HB5.out) | (with_reducible refine Below.setCell ?_ (by simp <;> omega) _))
end Go.Proofs.Ytfmgnbkneccekaa
