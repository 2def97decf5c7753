/- A step of a race, the reference's: the closing of a race. No condition. -/
import Derived.Test.YtfmgnbkneccekaaStpE
namespace Go.Proofs.Ytfmgnbkneccekaa
open Go Go.RowKit

/-- The first j entrants made absent where they have not started. -/
def closeK (es : List EntK) (j : Nat) : List EntK := es.mapIdx fun i e => if i < j then closeE e else e
theorem closeK_len (es : List EntK) (j : Nat) (_ : j ≤ es.length) : (closeK es j).length = es.length := by simp [closeK]
theorem closeK_zero (es : List EntK) : closeK es 0 = es := by
  apply List.ext_getElem (by simp [closeK])
  intro i h1 h2
  simp [closeK]
theorem closeK_all (es : List EntK) : closeK es es.length = es.map closeE := by
  apply List.ext_getElem (by simp [closeK])
  intro i h1 h2
  have : i < es.length := by simpa [closeK] using h1
  simp [closeK, this]
theorem closeK_get {es : List EntK} {j : Nat} (h : j < es.length) (h' : j < (closeK es j).length) : (closeK es j)[j] = es[j] := by simp [closeK]
theorem closeK_step {es : List EntK} {j : Nat} (h : j < es.length) : closeK es (j + 1) = (closeK es j).set j (closeE es[j]) := by
  apply List.ext_getElem (by simp [closeK])
  intro i h1 h2
  by_cases e : j = i
  · subst e
    simp [closeK]
  · rw [List.getElem_set_ne e]
    have : (i < j + 1) ↔ i < j := by omega
    simp [closeK, this]
set_option maxRecDepth 100000 in
set_option maxHeartbeats 8000000 in
theorem l21All6 (p : Race) (s : Step) (w : World) (h : p.In w) (g : GoodRace p.k) (hs : sgB p.k s = true) (hk : s.kind = 6) :
    Calls Try.prog 100 #[p.val, s.val] w fun e w' => ∃ p' : Race, e = .returned (.tuple #[.agg #[.int .i64 p'.clock, .bool p'.closed, .slice p'.a p'.n p'.c], .bool (stepB p.k s)]) ∧ Hid (stepB p.k s = true → p'.k = stepV p.k s) ∧ RaceR w.heap.size w' p' ∧ Below w.heap.size w w' := by
  have h0 := Lib.hid h
  have hpl := h.len
  have hpu := good_punches g
  obtain ⟨cl, cd, A, n, c, zs⟩ := p
  obtain ⟨s0, s1, s2⟩ := s
  simp only at hpl
  subst hpl
  have hl8 : 1 ≤ zs.length ∧ zs.length ≤ 8 := by
    have := inB_iff.1 g.2.1
    simp only [Race.k, List.length_map] at this
    omega
  have hcl : 0 ≤ cl ∧ cl ≤ 36000 := inB_iff.1 g.1
  have hpz : ∀ z ∈ zs, z.card.k.punches.length ≤ 12 := fun z hz => hpu z.k (List.mem_map.2 ⟨z, hz, rfl⟩)
  have hW : Below w.heap.size w (((w.alloc (.cells #[.int .i64 cl, .bool cd, .slice A zs.length c] 24)).alloc (.cells #[.int .i64 s0, .int .i64 s1, .int .i64 s2] 53)).alloc (.cells #[.int .i64 0, .bool false, .slice none 0 0] 24)) := below_alloc (below_alloc (below_alloc (Below.refl _ _) _) _) _
  have hz : (((w.alloc (.cells #[.int .i64 cl, .bool cd, .slice A zs.length c] 24)).alloc (.cells #[.int .i64 s0, .int .i64 s1, .int .i64 s2] 53)).alloc (.cells #[.int .i64 0, .bool false, .slice none 0 0] 24)).heap.size = w.heap.size + 3 := by simp
  have hl1 : LitAt (((w.alloc (.cells #[.int .i64 cl, .bool cd, .slice A zs.length c] 24)).alloc (.cells #[.int .i64 s0, .int .i64 s1, .int .i64 s2] 53)).alloc (.cells #[.int .i64 0, .bool false, .slice none 0 0] 24)) w.heap.size 24 [.int .i64 cl, .bool cd, .slice A zs.length c] := LitAt.alloc (LitAt.alloc (LitAt.new _ _ _ _ rfl) _) _
  have hl2 : LitAt (((w.alloc (.cells #[.int .i64 cl, .bool cd, .slice A zs.length c] 24)).alloc (.cells #[.int .i64 s0, .int .i64 s1, .int .i64 s2] 53)).alloc (.cells #[.int .i64 0, .bool false, .slice none 0 0] 24)) (w.heap.size + 1) 53 [.int .i64 s0, .int .i64 s1, .int .i64 s2] := LitAt.alloc (LitAt.new _ _ _ _ (by simp)) _
  have hl3 : LitAt (((w.alloc (.cells #[.int .i64 cl, .bool cd, .slice A zs.length c] 24)).alloc (.cells #[.int .i64 s0, .int .i64 s1, .int .i64 s2] 53)).alloc (.cells #[.int .i64 0, .bool false, .slice none 0 0] 24)) (w.heap.size + 1 + 1) 24 [.int .i64 0, .bool false, .slice none 0 0] := LitAt.new _ _ _ _ (by simp)
  have HB := Lib.hid hW
  have HIN := Lib.hid (h.below hW)
  have HL1 := Lib.hid hl1
  have HL2 := Lib.hid hl2
  have HL3 := Lib.hid hl3
  have HZ := Lib.hid hz
  have HOW := Lib.hid (l21Own_any ⟨cl, cd, A, zs.length, c, zs⟩ _ HIN.out (by simp only; omega) (fun z hz => by have := hpz z hz; omega))
  obtain rfl : s0 = 6 := hk
  have hsg : s1 = 0 ∧ s2 = 0 := by simpa [sgB] using hs
  obtain ⟨rfl, rfl⟩ := hsg
  have HV := Lib.hid (show stepB (Race.k ⟨cl, cd, A, zs.length, c, zs⟩) ⟨6, 0, 0⟩ = (!cd && noneOut (zs.map Ent.k)) from by simp [stepB, Race.k])
  clear h hl1 hl2 hl3 hpu hs
  show Calls Try.prog 100 #[.agg #[.int .i64 cl, .bool cd, .slice A zs.length c], .agg #[.int .i64 6, .int .i64 0, .int .i64 0]] w _
  go_enter Try.func100, Try.ntmps100
  have l10 := HL1.out.range 0 _ rfl
  have l11 := HL1.out.range 1 _ rfl
  have l12 := HL1.out.range 2 _ rfl
  have l20 := HL2.out.range 0 _ rfl
  have l21 := HL2.out.range 1 _ rfl
  have l22 := HL2.out.range 2 _ rfl
  have l30 := HL3.out.range 0 _ rfl
  have l31 := HL3.out.range 1 _ rfl
  have l32 := HL3.out.range 2 _ rfl
  have lf3 := HL3.out.frozen
  simp only [Nat.zero_add] at l10 l11 l12 l20 l21 l22 l30 l31 l32
  go_wp2_with fail
  refine HOW.out.mono ?_
  rintro e w2 ⟨⟨cl', cd', A', n', c', zs'⟩, he, hk', hR', hb⟩
  obtain rfl : e = .returned (.agg #[.int .i64 cl', .bool cd', .slice A' n' c']) := he
  have hsz := hb.size
  rw [HZ.out] at hsz hR'
  have hb3 : ∀ x y, Below w2.heap.size w2 (w2.alloc (.cells #[.int .i64 x, .bool y, .slice A' n' c'] 24)) := fun x y => below_alloc (Below.refl _ _) _
  have HRF := Lib.hid (show ∀ x y, RaceAt (w.heap.size + 3) (w2.alloc (.cells #[.int .i64 x, .bool y, .slice A' n' c'] 24)) w2.heap.size ⟨x, y, A', n', c', zs'⟩ from
    fun x y => ⟨LitAt.new w2 24 [.int .i64 x, .bool y, .slice A' n' c'] _ rfl, EntR.below hR' (hb3 x y), fun q hq => by have := (RaceR.lt hR' q hq).2; omega⟩)
  have HBF := Lib.hid (fun x y => step_ (step_ HB.out (Nat.le_refl _) hb) (Nat.le_refl _) (hb3 x y))
  clear l10 l11 l12 l20 l21 l22 l30 l31 l32 lf3
  have HF1 := Lib.hid (fun x y => (HL1.out.below hb).below (hb3 x y))
  have HF2 := Lib.hid (fun x y => (HL2.out.below hb).below (hb3 x y))
  have HF3 := Lib.hid (fun x y => (HL3.out.below hb).below (hb3 x y))
  have HFI := Lib.hid (fun x y => (HIN.out.below hb).below (hb3 x y))
  have hn' : n' = zs'.length := (HRF.out cl' cd').len
  subst hn'
  simp only [Race.k, RaceK.mk.injEq] at hk'
  obtain ⟨rfl, rfl, hkz⟩ := hk'
  have HZL := Lib.hid (show zs'.length = zs.length by have := congrArg List.length hkz; simpa using this)
  have hszA : w.heap.size + 3 ≤ w2.heap.size := hsz
  clear hb hb3 hR' HOW hz hsz HL1 HL2 HL3 HB HIN
  have HKZ := Lib.hid hkz
  have HEV := Lib.hid (fun zz (hz : zz.map Ent.k = (zs'.map Ent.k).map closeE) => show Race.k ⟨cl', true, A', zs'.length, c', zz⟩ = stepV (Race.k ⟨cl', cd', A, zs.length, c, zs⟩) ⟨6, 0, 0⟩ from by
    simp only [Race.k] at *
    simp [stepV, hz, hkz])
  have HIO := Lib.hid (fun W (hW : Below w.heap.size w W) => h0.out.below hW)
  clear hkz g
  have q20 := (HF2.out cl' cd').range 0 _ rfl
  have q11 := (HRF.out cl' cd').cells.2.1
  have qf := (HRF.out cl' cd').cells.2.2.2
  simp only [Nat.zero_add] at q20 q11
  have HRA := Lib.hid (HRF.out cl' true)
  have HB := Lib.hid (HBF.out cl' true)
  have HL1 := Lib.hid (HF1.out cl' true)
  have HL3 := Lib.hid (HF3.out cl' true)
  obtain ⟨q, rfl, -, hBq, hqw, hcz, hqg⟩ := HRA.out.form (by have := HZL.out; omega)
  have hcm : c' ≤ 9223372036854775807 := by
    obtain ⟨_, _, h1, h2, h3⟩ := HRA.out.2.1.1.parts
    simp only [Race.sv, Value.slice.injEq] at h1
    omega
  have hZ8 : zs'.length ≤ 8 := by have := HZL.out; omega
  have HZ0 := Lib.hid (closeK_zero (zs'.map Ent.k)).symm
  clear HRF HBF HF1 HF2 HF3 HFI
  go_wp2_with fail
  go_loopw [7] (fun iv wr => ∃ (j : Nat) (zz : List Ent), j ≤ zs'.length ∧ iv = .int .i64 j ∧ Hid (zz.map Ent.k = closeK (zs'.map Ent.k) j) ∧ Hid (zz.length = zs'.length) ∧ Hid (RaceAt (w.heap.size + 3) wr w2.heap.size ⟨cl', true, some ⟨q, 0, none⟩, zs'.length, c', zz⟩) ∧ Hid (LitAt wr w.heap.size 24 [.int .i64 cl', .bool cd', .slice A zs.length c]) ∧ Hid (LitAt wr (w.heap.size + 1 + 1) 24 [.int .i64 0, .bool false, .slice none 0 0]) ∧ Hid (Below w.heap.size w wr))
    (fun iv _ => zs'.length - (intOf iv).toNat)
  case atStart => exact ⟨0, zs', by omega, rfl, HZ0.out, rfl, HRA.out, HL1.out, HL3.out, HB.out⟩
  case round =>
    clear HRA HL1 HL3 HB HZ0 q20 q11 qf
    obtain ⟨j, zz, hj, rfl, HZ, HZZ, HRA, HL1, HL3, HB⟩ := hrel
    obtain ⟨r0, r1, r2, rf⟩ := HRA.out.cells
    simp only at r0 r1 r2
    by_cases hlt : j < zs'.length
    · have hlti : (j : Int) < (zs'.length : Int) := by omega
      have hjz : j < zz.length := by rw [HZZ.out]; exact hlt
      have hje : j < (zs'.map Ent.k).length := by simpa using hlt
      have HST := Lib.hid (closeK_step hje)
      have HGE := Lib.hid (show zz[j].k = (zs'.map Ent.k)[j] from by
        have h1 : (zz.map Ent.k)[j]? = (closeK (zs'.map Ent.k) j)[j]? := by rw [HZ.out]
        have hjl : j < (closeK (zs'.map Ent.k) j).length := by rw [closeK_len _ _ (by omega)]; exact hje
        rw [List.getElem?_eq_getElem (by simpa using hjz), List.getElem?_eq_getElem hjl, closeK_get hje hjl] at h1
        simpa using Option.some.inj h1)
      obtain ⟨zj, hzj⟩ : ∃ zj, zz[j] = zj := ⟨_, rfl⟩
      obtain ⟨e0, e1, e2, e3, e4, ef⟩ := EntR.cells' HRA.out.2.1 hjz hzj
      have HRW := Lib.hid HRA.out.2.1.1
      have HGI := Lib.hid (show (zz.map Ent.lst)[j]'(by simpa using hjz) = zj.lst by simp [hzj])
      rw [hzj] at HGE
      have HZJ := Lib.hid hzj
      obtain ⟨st, ⟨⟨k0, k1, k2, sp⟩, D, m, d⟩⟩ := zj
      simp only at e0 e1 e2 e3 e4
      clear hzj
      by_cases hst : st = 0
      · subst hst
        have HZN := Lib.hid (show (zz.set j ⟨4, ⟨⟨k0, k1, k2, sp⟩, D, m, d⟩⟩).map Ent.k = closeK (zs'.map Ent.k) (j + 1) from by
          rw [List.map_set, HZ.out, HST.out, ← HGE.out]
          simp [closeE, Ent.k])
        have hr1 := HRW.out.stored (k := j) (j := 0) (by simpa using hjz) (by omega) (.int .i64 4)
        have hr2 := hr1.1.stored (k := j) (j := 1) (by simpa using hjz) (by omega) (.int .i64 k0)
        have hr3 := hr2.1.stored (k := j) (j := 2) (by simpa using hjz) (by omega) (.int .i64 k1)
        have hr4 := hr3.1.stored (k := j) (j := 3) (by simpa using hjz) (by omega) (.int .i64 k2)
        have hr5 := hr4.1.stored (k := j) (j := 4) (by simpa using hjz) (by omega) (.slice D m d)
        have HR5 := Lib.hid (HRA.out.turn hjz ⟨4, ⟨⟨k0, k1, k2, sp⟩, D, m, d⟩⟩ (by rw [HZJ.out]) (by rw [HZJ.out]) (grown_trans (grown_trans (grown_trans (grown_trans hr1.2 hr2.2) hr3.2) hr4.2) hr5.2) (by
          have h5 := hr5.1
          simpa [HGI.out, Ent.lst] using h5))
        have HB5 := Lib.hid (((((HB.out.setCell (p := ⟨q, j * 5, none⟩) (by simp; omega) (.int .i64 4)).setCell (p := ⟨q, j * 5 + 1, none⟩) (by simp; omega) (.int .i64 k0)).setCell (p := ⟨q, j * 5 + 2, none⟩) (by simp; omega) (.int .i64 k1)).setCell (p := ⟨q, j * 5 + 3, none⟩) (by simp; omega) (.int .i64 k2)).setCell (p := ⟨q, j * 5 + 4, none⟩) (by simp; omega) (.slice D m d))
        have HL15 := Lib.hid (((((HL1.out.setNe (q := q) (o := j * 5) (by omega) (.int .i64 4)).setNe (q := q) (o := j * 5 + 1) (by omega) (.int .i64 k0)).setNe (q := q) (o := j * 5 + 2) (by omega) (.int .i64 k1)).setNe (q := q) (o := j * 5 + 3) (by omega) (.int .i64 k2)).setNe (q := q) (o := j * 5 + 4) (by omega) (.slice D m d))
        have HL35 := Lib.hid (((((HL3.out.setNe (q := q) (o := j * 5) (by omega) (.int .i64 4)).setNe (q := q) (o := j * 5 + 1) (by omega) (.int .i64 k0)).setNe (q := q) (o := j * 5 + 2) (by omega) (.int .i64 k1)).setNe (q := q) (o := j * 5 + 3) (by omega) (.int .i64 k2)).setNe (q := q) (o := j * 5 + 4) (by omega) (.slice D m d))
        clear hr1 hr2 hr3 hr4 hr5
        go_wp2_with fail
        go_region
        all_goals
          go_wp2_with fail
          go_roundw
          case rel =>
            refine ⟨j + 1, zz.set j ⟨4, ⟨⟨k0, k1, k2, sp⟩, D, m, d⟩⟩, by omega, by go_num, HZN.out, by show _ = _; simpa using HZZ.out, ?_, ?_, ?_, ?_⟩
            · first | exact HR5.out | exact HR5.out.below (Below.refl _ _).drew
            · first | exact HL15.out | exact HL15.out.drew
            · first | exact HL35.out | exact HL35.out.drew
            · first | exact HB5.out | exact HB5.out.drew
          case measure => simp [intOf]; omega
      · have hst' : (st == 0) = false := by simpa using hst
        have HZN := Lib.hid (show zz.map Ent.k = closeK (zs'.map Ent.k) (j + 1) from by
          rw [HST.out, ← HGE.out]
          have : closeE (Ent.k ⟨st, ⟨⟨k0, k1, k2, sp⟩, D, m, d⟩⟩) = Ent.k ⟨st, ⟨⟨k0, k1, k2, sp⟩, D, m, d⟩⟩ := by simp [closeE, Ent.k, hst]
          rw [this, HGE.out, ← HZ.out]
          apply List.ext_getElem (by simp)
          intro i h1 h2
          by_cases e : j = i
          · subst e
            rw [List.getElem_set_self, ← HGE.out]
            simp [HZJ.out]
          · rw [List.getElem_set_ne e])
        clear hst
        go_wp2_with fail
        go_roundw
        case rel => exact ⟨j + 1, zz, by omega, by go_num, HZN.out, HZZ.out, HRA.out, HL1.out, HL3.out, HB.out⟩
        case measure => simp [intOf]; omega
    · have hlti : ¬ (j : Int) < (zs'.length : Int) := by omega
      obtain rfl : j = zs'.length := by omega
      have HEF := Lib.hid (HEV.out zz (HZ.out.trans (by have := closeK_all (zs'.map Ent.k); rw [List.length_map] at this; exact this)))
      have l10 := HL1.out.range 0 _ rfl
      have l11 := HL1.out.range 1 _ rfl
      have l12 := HL1.out.range 2 _ rfl
      have l30 := HL3.out.range 0 _ rfl
      have l31 := HL3.out.range 1 _ rfl
      have l32 := HL3.out.range 2 _ rfl
      have lf3 := HL3.out.frozen
      simp only [Nat.zero_add] at l10 l11 l12 l30 l31 l32
      cases cd' with
      | true =>
        have HT := Lib.hid (HV.out.trans (by simp : _ = false))
        have HEF := Lib.hid (show stepB (Race.k ⟨cl', true, A, zs.length, c, zs⟩) ⟨6, 0, 0⟩ = true → Race.k ⟨cl', true, some ⟨q, 0, none⟩, zs'.length, c', zz⟩ = stepV (Race.k ⟨cl', true, A, zs.length, c, zs⟩) ⟨6, 0, 0⟩ from fun _ => HEF.out)
        have HR5 := Lib.hid HRA.out.2.1
        have HB5 := HB
        go_wp2_with fail
        go_region
        all_goals
          go_wp2_with fail
          refine bodyPost_ret (v := .tuple #[.agg #[.int .i64 cl', .bool true, .slice (some ⟨q, 0, none⟩) zs'.length c'], .bool false]) (by simp [results, Try.results100, go_sem, l30, l31, l32]) rfl ⟨⟨cl', true, (some ⟨q, 0, none⟩), zs'.length, c', zz⟩, by rw [HT.out], HEF.out, ?_, ?_⟩
          · refine RaceR.mono (base := w.heap.size + 3) ?_ (by omega)
            repeat (first | (with_reducible exact HR5.out) | (with_reducible refine RaceR.setOther ?_ (by omega) _) | (with_reducible refine RaceR.drew ?_))
          · repeat (first | (with_reducible exact HB5.out) | (with_reducible refine Below.setCell ?_ (by simp <;> omega) _) | (with_reducible refine Below.drew ?_))
      | false =>
        have HT := Lib.hid (HV.out.trans (show (!false && noneOut (zs.map Ent.k)) = noneOut (zs.map Ent.k) by simp))
        have HEF := Lib.hid (show stepB (Race.k ⟨cl', false, A, zs.length, c, zs⟩) ⟨6, 0, 0⟩ = true → Race.k ⟨cl', true, some ⟨q, 0, none⟩, zs'.length, c', zz⟩ = stepV (Race.k ⟨cl', false, A, zs.length, c, zs⟩) ⟨6, 0, 0⟩ from fun _ => HEF.out)
        have HR5 := Lib.hid HRA.out.2.1
        have HB5 := HB
        have HLO := Lib.hid (l21Out_any ⟨cl', false, A, zs.length, c, zs⟩ wr.drew (HIO.out _ HB.out.drew) (by simp only; omega))
        have HKK := Lib.hid (show ∀ w', KeptOff (fun k => k = w.heap.size + 1 + 1) wr w' → w'.cell? ⟨w2.heap.size, 0, none⟩ = some (.int .i64 cl') ∧ w'.cell? ⟨w2.heap.size, 1, none⟩ = some (.bool true) ∧ w'.cell? ⟨w2.heap.size, 2, none⟩ = some (.slice (some ⟨q, 0, none⟩) zs'.length c') ∧ w'.cell? ⟨w.heap.size, 0, none⟩ = some (.int .i64 cl') ∧ w'.cell? ⟨w.heap.size, 1, none⟩ = some (.bool false) ∧ w'.cell? ⟨w.heap.size, 2, none⟩ = some (.slice A zs.length c) from fun w' hk =>
          ⟨hk.cell r0 (by omega), hk.cell r1 (by omega), hk.cell r2 (by omega), hk.cell l10 (by omega), hk.cell l11 (by omega), hk.cell l12 (by omega)⟩)
        have HKW := Lib.hid (show ∀ w4, Below wr.drew.heap.size wr.drew w4 → KeptOff (fun k => k = w.heap.size + 1 + 1) wr w4 from fun w4 hb => (KeptOff.refl _ wr).drew.trans (KeptOff.of_below hb))
        have HEV' := HEV
        clear HEV hcm hcz
        cases hno : noneOut (zs.map Ent.k) with
        | false =>
          have hpos := outL_some hno
          have hle := outL_len 1 (zs.map Ent.k)
          simp only [List.length_map] at hle
          rw [hno] at HT
          simp only at HLO
          generalize outL 1 (zs.map Ent.k) = l1 at HLO hpos hle
          have e1 : ((l1.length : Int) == 0) = false := by rw [beq_eq_false_iff_ne]; omega
          go_wp2_with fail
          go_region_held3 (fun w' => w'.cell? ⟨w2.heap.size, 0, none⟩ = some (.int .i64 cl') ∧ w'.cell? ⟨w2.heap.size, 1, none⟩ = some (.bool true) ∧ w'.cell? ⟨w2.heap.size, 2, none⟩ = some (.slice (some ⟨q, 0, none⟩) zs'.length c') ∧ w'.cell? ⟨w.heap.size, 0, none⟩ = some (.int .i64 cl') ∧ w'.cell? ⟨w.heap.size, 1, none⟩ = some (.bool false) ∧ w'.cell? ⟨w.heap.size, 2, none⟩ = some (.slice A zs.length c))
            (exact HKK.out _ (by repeat (first | (with_reducible exact KeptOff.refl _ _) | (with_reducible exact hk4) | (with_reducible refine KeptOff.drew ?_) | (with_reducible refine KeptOff.setCell1 ?_ _))))
            (first
              | (go_at_call 68; refine HLO.out.mono ?_; rintro e w4 ⟨rr, rfl, hrow, hb4⟩; obtain ⟨A4, c4, rfl, -, -⟩ := hrow.parts; simp only [List.length_map]; have hk4 := HKW.out _ hb4; have HR5 := Lib.hid (RaceR.below (RaceR.below HRA.out.2.1 (Below.refl _ _).drew) hb4); have HB5 := Lib.hid (step_ HB.out.drew (Nat.le_refl _) hb4); have HL35 := Lib.hid (HL3.out.drew.below hb4); have l30 := HL35.out.range 0 _ rfl; have l31 := HL35.out.range 1 _ rfl; have l32 := HL35.out.range 2 _ rfl; have lf3 := HL35.out.frozen; simp only [Nat.zero_add] at l30 l31 l32))
          all_goals
            go_wp2_with fail
            refine bodyPost_ret (v := .tuple #[.agg #[.int .i64 cl', .bool true, .slice (some ⟨q, 0, none⟩) zs'.length c'], .bool false]) (by simp [results, Try.results100, go_sem, l30, l31, l32]) rfl ⟨⟨cl', true, (some ⟨q, 0, none⟩), zs'.length, c', zz⟩, by rw [HT.out], HEF.out, ?_, ?_⟩
            · refine RaceR.mono (base := w.heap.size + 3) ?_ (by omega)
              repeat (first | (with_reducible exact HR5.out) | (with_reducible refine RaceR.setOther ?_ (by omega) _) | (with_reducible refine RaceR.drew ?_))
            · repeat (first | (with_reducible exact HB5.out) | (with_reducible refine Below.setCell ?_ (by simp <;> omega) _) | (with_reducible refine Below.drew ?_))
        | true =>
          rw [hno] at HT
          simp only [outL_none hno] at HLO
          go_wp2_with fail
          go_region_held3 (fun w' => w'.cell? ⟨w2.heap.size, 0, none⟩ = some (.int .i64 cl') ∧ w'.cell? ⟨w2.heap.size, 1, none⟩ = some (.bool true) ∧ w'.cell? ⟨w2.heap.size, 2, none⟩ = some (.slice (some ⟨q, 0, none⟩) zs'.length c') ∧ w'.cell? ⟨w.heap.size, 0, none⟩ = some (.int .i64 cl') ∧ w'.cell? ⟨w.heap.size, 1, none⟩ = some (.bool false) ∧ w'.cell? ⟨w.heap.size, 2, none⟩ = some (.slice A zs.length c))
            (exact HKK.out _ (by repeat (first | (with_reducible exact KeptOff.refl _ _) | (with_reducible exact hk4) | (with_reducible refine KeptOff.drew ?_) | (with_reducible refine KeptOff.setCell1 ?_ _))))
            (first
              | (go_at_call 68; refine HLO.out.mono ?_; rintro e w4 ⟨rr, rfl, hrow, hb4⟩; obtain ⟨A4, c4, rfl, -, -⟩ := hrow.parts; simp only [List.length_map]; have hk4 := HKW.out _ hb4; have HR5 := Lib.hid (RaceR.below (RaceR.below HRA.out.2.1 (Below.refl _ _).drew) hb4); have HB5 := Lib.hid (step_ HB.out.drew (Nat.le_refl _) hb4); have HL35 := Lib.hid (HL3.out.drew.below hb4); have l30 := HL35.out.range 0 _ rfl; have l31 := HL35.out.range 1 _ rfl; have l32 := HL35.out.range 2 _ rfl; have lf3 := HL35.out.frozen; simp only [Nat.zero_add] at l30 l31 l32))
          all_goals
            go_wp2_with fail
            refine bodyPost_ret (v := .tuple #[.agg #[.int .i64 cl', .bool true, .slice (some ⟨q, 0, none⟩) zs'.length c'], .bool true]) (by simp [results, Try.results100, go_sem, l30, l31, l32]) rfl ⟨⟨cl', true, (some ⟨q, 0, none⟩), zs'.length, c', zz⟩, by rw [HT.out], HEF.out, ?_, ?_⟩
            · refine RaceR.mono (base := w.heap.size + 3) ?_ (by omega)
              repeat (first | (with_reducible exact HR5.out) | (with_reducible refine RaceR.setOther ?_ (by omega) _) | (with_reducible refine RaceR.drew ?_))
            · repeat (first | (with_reducible exact HB5.out) | (with_reducible refine Below.setCell ?_ (by simp <;> omega) _) | (with_reducible refine Below.drew ?_))
end Go.Proofs.Ytfmgnbkneccekaa
