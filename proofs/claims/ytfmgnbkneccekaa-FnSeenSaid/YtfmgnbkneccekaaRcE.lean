/- The walks of StateCounts. No condition. -/
import Derived.Test.YtfmgnbkneccekaaRcC
namespace Go.Proofs.Ytfmgnbkneccekaa
open Go Go.RowKit

set_option maxRecDepth 100000 in
set_option maxHeartbeats 4000000 in
theorem impl_StateCounts (p : Race) (k : RaceK) (w : World) (hk : p.k = k) (h : p.In w) :
    Calls Try.prog 25 #[p.val] w fun e w' => ∃ r, e = .returned (.tuple #[r, .bool (goodRace k)]) ∧ Row w.heap.size 3 1 w' r ((stcV k).map ints) ∧ Below w.heap.size w w' := by
  subst hk
  have hpl := h.len
  obtain ⟨cl, cd, A, n, c, zs⟩ := p
  simp only at hpl
  subst hpl
  have hs : EntS w (.slice A zs.length c) zs := h
  obtain ⟨A', c', hv, hc, hm, hk⟩ := hs.1.open_
  simp only [Value.slice.injEq] at hv
  obtain ⟨rfl, _, rfl⟩ := hv
  have hW : Below w.heap.size w (w.alloc (.cells #[.int .i64 cl, .bool cd, .slice A zs.length c] 24)) := below_alloc (Below.refl _ _) _
  have HG := Lib.hid (IsRace_any _ _ (h.below hW))
  have hrc := Race.cellsNew w ⟨cl, cd, A, zs.length, c, zs⟩ 24
  have HRC := Lib.hid (fun W hW => (hrc ⟨W, hW⟩).2.2)
  have HW := Lib.hid hW
  show Calls Try.prog 25 #[.agg #[.int .i64 cl, .bool cd, .slice A zs.length c]] w _
  by_cases hg : goodRace (Race.k ⟨cl, cd, A, zs.length, c, zs⟩) = true
  rotate_left
  · have hg' : goodRace (Race.k ⟨cl, cd, A, zs.length, c, zs⟩) = false := by simpa using hg
    have HV := Lib.hid (show stcV (Race.k ⟨cl, cd, A, zs.length, c, zs⟩) = [] by simp [stcV, hg'])
    rw [hg'] at HG ⊢
    rw [HV.out]
    clear hg hg' h hs hW hrc
    go_enter Try.func25, Try.ntmps25
    go_wp2_with (go_at_call 21; refine HG.out.mono ?_; rintro e w1 ⟨rfl, hb1⟩)
    go_ret2
    exact ⟨_, rfl, Row.nil _ _ _ _, step_ HW.out (Nat.le_refl _) hb1⟩
  have hl := race_len hg
  simp only [Race.k, List.length_map] at hl
  obtain ⟨hl1, hl8⟩ := hl
  have HV := Lib.hid (show stcV (Race.k ⟨cl, cd, A, zs.length, c, zs⟩) = cntF (fun e : EntK => e.state.toNat) 5 (zs.map Ent.k) by simp only [stcV, hg]; rfl)
  have HSR := Lib.hid (show ∀ k (h : k < zs.length), 0 ≤ zs[k].state ∧ zs[k].state ≤ 4 from fun k h => by
    have := (goodRace_iff.1 hg).2.2 k (by simpa [Race.k] using h)
    simp only [Race.k, List.getElem_map] at this
    exact entOk_state this)
  rw [hg] at HG ⊢
  rw [HV.out]
  have HC := Lib.hid (cntF_step (fun e : EntK => e.state.toNat) 5 (zs.map Ent.k))
  have HI := Lib.hid (cntF_inv (fun e : EntK => e.state.toNat) 5 (zs.map Ent.k))
  have HKK := Lib.hid (show ∀ k (h : k < zs.length) (h' : k < (zs.map Ent.k).length), (zs.map Ent.k)[k] = zs[k].k from fun k _ _ => by simp)
  have HLM := Lib.hid (show (zs.map Ent.k).length = zs.length by simp)
  obtain ⟨ks, hks⟩ : ∃ ks, ks = zs.map Ent.k := ⟨_, rfl⟩
  rw [← hks] at HC HI HKK HLM ⊢
  clear hg h hs hW hrc hks HV
  go_enter Try.func25, Try.ntmps25
  go_wp2_with (first
    | (go_at_call 21; refine HG.out.mono ?_; rintro e w1 ⟨rfl, hb1⟩; have hrc1 := HRC.out _ hb1; try simp only at hrc1)
    | (at_make; refine tyInt.make rfl _ _ rfl w1.heap.size 5 _ _ rfl rfl rfl rfl (by omega) (Nat.le_refl _) ?_; intro w2 hrow2 hb2 hz2; have hrc2 := HRC.out _ (step_ hb1 (Nat.le_refl _) hb2); try simp only at hrc2))
  have HOW := Lib.hid (show Row w.heap.size 3 1 w2 (.slice (some ⟨w1.heap.size, 0, none⟩) 5 5) ((cntF (fun e : EntK => e.state.toNat) 5 (ks.take 0)).map ints) from (by simpa [cntF, ints] using hrow2.mono (Nat.le_trans HW.out.size hb1.size)))
  have HBW := Lib.hid (step_ hb1 (Nat.le_refl _) hb2)
  obtain ⟨g, hgg⟩ : ∃ g, w1.heap.size = g := ⟨_, rfl⟩
  have HGE := Lib.hid (show (w.alloc (.cells #[.int .i64 cl, .bool cd, .slice A zs.length c] 24)).heap.size ≤ g by rw [← hgg]; exact hb1.size)
  rw [hgg] at HOW ⊢
  clear hrow2 hgg hz2 hb1 hb2 hrc1 hrc2
  go_loopw [14] (fun i wr => ∃ k : Nat, k ≤ zs.length ∧ i = .int .i64 k ∧ Row w.heap.size 3 1 wr (.slice (some ⟨g, 0, none⟩) 5 5) ((cntF (fun e : EntK => e.state.toNat) 5 (ks.take k)).map ints) ∧ Below (w.alloc (.cells #[.int .i64 cl, .bool cd, .slice A zs.length c] 24)).heap.size (w.alloc (.cells #[.int .i64 cl, .bool cd, .slice A zs.length c] 24)) wr)
    (fun i _ => zs.length - (intOf i).toNat)
  case atStart => exact ⟨0, Nat.zero_le _, rfl, HOW.out, HBW.out⟩
  case round =>
    obtain ⟨k, hkl, rfl, hrow, hb⟩ := hrel
    have hrc := HRC.out _ hb
    try simp only at hrc
    by_cases hlt : k < zs.length
    · obtain ⟨b, off, rfl, hat⟩ := flat_at hk (by omega)
      have hr := rangeAt_below (rangeAt_below (hat k hlt) HW.out) hb
      have hec := Ent.cells hr
      have hkk : k < ks.length := by rw [HLM.out]; exact hlt
      have hst := HC.out k hkk
      obtain ⟨h6, hsm⟩ := HI.out k (by omega)
      have hx := HKK.out k hlt hkk
      have hsr := HSR.out k hlt
      rw [hx] at hst
      obtain ⟨x, hxx⟩ : ∃ x, x = zs[k] := ⟨_, rfl⟩
      rw [← hxx] at hr hec hst hsr
      obtain ⟨cur, hcur⟩ : ∃ cur, cur = cntF (fun e : EntK => e.state.toNat) 5 (ks.take k) := ⟨_, rfl⟩
      rw [← hcur] at hst h6 hsm hrow
      obtain ⟨s, hs⟩ : ∃ s : Nat, x.state = s := ⟨x.state.toNat, by omega⟩
      have hs2 : x.k.state.toNat = s := by show x.state.toNat = s; omega
      rw [hs2] at hst
      have hbd := hsm s
      have hs5 : s ≤ 4 := by omega
      have hsl : s < (cur.map ints).length := by simp; omega
      have HGD := Lib.hid (show (cur.map ints)[s][0]? = some (.int .i64 (cur.getD s 0)) by
        have : s < cur.length := by omega
        simp [ints, List.getD_eq_getElem?_getD, this])
      obtain ⟨y, hy⟩ : ∃ y, y = cur.getD s 0 := ⟨_, rfl⟩
      rw [← hy] at hbd
      have HY := Lib.hid hy
      have HHST := Lib.hid hst
      have hy2 : y ≤ 10 := by omega
      have hy1 := hbd.1
      have HSL := Lib.hid hsl
      rw [hs] at hec
      have hec2 := (Ent.cells (Ent.rangeNew wr x 75)).1
      rw [hs] at hec2
      try simp only [Nat.zero_add] at hec2
      have HW1 := Lib.hid (below_alloc hb (.cells #[.int .i64 s, .int .i64 x.card.k.number, .int .i64 x.card.k.start, .int .i64 x.card.k.finish, .slice x.card.a x.card.n x.card.c] 75))
      have hrow3 := hrow.alloc (.cells #[.int .i64 s, .int .i64 x.card.k.number, .int .i64 x.card.k.start, .int .i64 x.card.k.finish, .slice x.card.a x.card.n x.card.c] 75)
      have hc3 := hrow3.cell (k := s) (j := 0) HSL.out (by omega)
      rw [HGD.out, ← HY.out] at hc3
      try simp only [Nat.mul_one, Nat.add_zero] at hc3
      clear hat hk hst hcur hs2 hx hxx h6 hsm hbd hsr hy hrow hb HI HC HSR
      go_wp2_with (first
        | ((with_reducible refine at_load_ 75 ?_); refine Ent.loadImpl rfl _ rfl b (off + k * 5) rfl x hr ?_; rw [hs])
        | ((with_reducible refine at_storeI_ 3 ?_); refine put1_ (e := 3) (sz := 1) rfl _ _ _ rfl infoInt w.heap.size g 5 5 s 0 _ _ _ hrow3 HSL.out (by omega) rfl (by omega) rfl ?_; intro w4 hrow4 hg4))
      have HR4 := Lib.hid (bump_row HSL.out (by rw [HY.out]) hrow4)
      have HB4 := Lib.hid (HW1.out.grown hg4 HW1.out.size (fun q hq => by have := HGE.out; simp at hq; omega))
      go_roundw
      case rel => exact ⟨k + 1, by omega, by go_num, by rw [HHST.out]; exact HR4.out, HB4.out⟩
      case measure => simp [intOf]; omega
    · go_wp2
      go_ret2
      obtain rfl : k = zs.length := by omega
      have e1 : ks.take zs.length = ks := by rw [← HLM.out]; exact List.take_length
      rw [e1] at hrow
      exact ⟨_, rfl, hrow, step_ HW.out (Nat.le_refl _) hb⟩

set_option maxRecDepth 100000 in
set_option maxHeartbeats 4000000 in
theorem spec_StateCounts (p : Race) (k : RaceK) (w : World) (hk : p.k = k) (h : p.In w) :
    Calls Try.prog 24 #[p.val] w fun e w' => ∃ r, e = .returned (.tuple #[r, .bool (goodRace k)]) ∧ Row w.heap.size 3 1 w' r ((stcV k).map ints) ∧ Below w.heap.size w w' := by
  subst hk
  have hpl := h.len
  obtain ⟨cl, cd, A, n, c, zs⟩ := p
  simp only at hpl
  subst hpl
  have hs : EntS w (.slice A zs.length c) zs := h
  obtain ⟨A', c', hv, hc, hm, hk⟩ := hs.1.open_
  simp only [Value.slice.injEq] at hv
  obtain ⟨rfl, _, rfl⟩ := hv
  have hW : Below w.heap.size w (w.alloc (.cells #[.int .i64 cl, .bool cd, .slice A zs.length c] 24)) := below_alloc (Below.refl _ _) _
  have HG := Lib.hid (l21Good_any _ _ (h.below hW))
  have hrc := Race.cellsNew w ⟨cl, cd, A, zs.length, c, zs⟩ 24
  have HRC := Lib.hid (fun W hW => (hrc ⟨W, hW⟩).2.2)
  have HW := Lib.hid hW
  show Calls Try.prog 24 #[.agg #[.int .i64 cl, .bool cd, .slice A zs.length c]] w _
  by_cases hg : goodRace (Race.k ⟨cl, cd, A, zs.length, c, zs⟩) = true
  rotate_left
  · have hg' : goodRace (Race.k ⟨cl, cd, A, zs.length, c, zs⟩) = false := by simpa using hg
    have HV := Lib.hid (show stcV (Race.k ⟨cl, cd, A, zs.length, c, zs⟩) = [] by simp [stcV, hg'])
    rw [hg'] at HG ⊢
    rw [HV.out]
    clear hg hg' h hs hW hrc
    go_enter Try.func24, Try.ntmps24
    go_wp2_with (go_at_call 64; refine HG.out.mono ?_; rintro e w1 ⟨rfl, hb1⟩)
    go_ret2
    exact ⟨_, rfl, (Row.lit_nil w1 3 1 (Nat.le_trans HW.out.size hb1.size)), below_alloc (step_ HW.out (Nat.le_refl _) hb1) _⟩
  have hl := race_len hg
  simp only [Race.k, List.length_map] at hl
  obtain ⟨hl1, hl8⟩ := hl
  have HV := Lib.hid (show stcV (Race.k ⟨cl, cd, A, zs.length, c, zs⟩) = cntF (fun e : EntK => e.state.toNat) 5 (zs.map Ent.k) by simp only [stcV, hg]; rfl)
  have HSR := Lib.hid (show ∀ k (h : k < zs.length), 0 ≤ zs[k].state ∧ zs[k].state ≤ 4 from fun k h => by
    have := (goodRace_iff.1 hg).2.2 k (by simpa [Race.k] using h)
    simp only [Race.k, List.getElem_map] at this
    exact entOk_state this)
  rw [hg] at HG ⊢
  rw [HV.out]
  have HC := Lib.hid (cntF_step (fun e : EntK => e.state.toNat) 5 (zs.map Ent.k))
  have HI := Lib.hid (cntF_inv (fun e : EntK => e.state.toNat) 5 (zs.map Ent.k))
  have HKK := Lib.hid (show ∀ k (h : k < zs.length) (h' : k < (zs.map Ent.k).length), (zs.map Ent.k)[k] = zs[k].k from fun k _ _ => by simp)
  have HLM := Lib.hid (show (zs.map Ent.k).length = zs.length by simp)
  obtain ⟨ks, hks⟩ : ∃ ks, ks = zs.map Ent.k := ⟨_, rfl⟩
  rw [← hks] at HC HI HKK HLM ⊢
  clear hg h hs hW hrc hks HV
  go_enter Try.func24, Try.ntmps24
  go_wp2_with (first
    | (go_at_call 64; refine HG.out.mono ?_; rintro e w1 ⟨rfl, hb1⟩; have hrc1 := HRC.out _ hb1; try simp only at hrc1)
    | (at_make; refine tyInt.make rfl _ _ rfl w1.heap.size 5 _ _ rfl rfl rfl rfl (by omega) (Nat.le_refl _) ?_; intro w2 hrow2 hb2 hz2; have hrc2 := HRC.out _ (step_ hb1 (Nat.le_refl _) hb2); try simp only at hrc2))
  have HOW := Lib.hid (show Row w.heap.size 3 1 w2 (.slice (some ⟨w1.heap.size, 0, none⟩) 5 5) ((cntF (fun e : EntK => e.state.toNat) 5 (ks.take 0)).map ints) from (by simpa [cntF, ints] using hrow2.mono (Nat.le_trans HW.out.size hb1.size)))
  have HBW := Lib.hid (step_ hb1 (Nat.le_refl _) hb2)
  obtain ⟨g, hgg⟩ : ∃ g, w1.heap.size = g := ⟨_, rfl⟩
  have HGE := Lib.hid (show (w.alloc (.cells #[.int .i64 cl, .bool cd, .slice A zs.length c] 24)).heap.size ≤ g by rw [← hgg]; exact hb1.size)
  rw [hgg] at HOW ⊢
  clear hrow2 hgg hz2 hb1 hb2 hrc1 hrc2
  go_loopw [5] (fun i wr => ∃ k : Nat, k ≤ zs.length ∧ i = .int .i64 k ∧ Row w.heap.size 3 1 wr (.slice (some ⟨g, 0, none⟩) 5 5) ((cntF (fun e : EntK => e.state.toNat) 5 (ks.take k)).map ints) ∧ Below (w.alloc (.cells #[.int .i64 cl, .bool cd, .slice A zs.length c] 24)).heap.size (w.alloc (.cells #[.int .i64 cl, .bool cd, .slice A zs.length c] 24)) wr)
    (fun i _ => zs.length - (intOf i).toNat)
  case atStart => exact ⟨0, Nat.zero_le _, rfl, HOW.out, HBW.out⟩
  case round =>
    obtain ⟨k, hkl, rfl, hrow, hb⟩ := hrel
    have hrc := HRC.out _ hb
    try simp only at hrc
    by_cases hlt : k < zs.length
    · obtain ⟨b, off, rfl, hat⟩ := flat_at hk (by omega)
      have hr := rangeAt_below (rangeAt_below (hat k hlt) HW.out) hb
      have hec := Ent.cells hr
      have hkk : k < ks.length := by rw [HLM.out]; exact hlt
      have hst := HC.out k hkk
      obtain ⟨h6, hsm⟩ := HI.out k (by omega)
      have hx := HKK.out k hlt hkk
      have hsr := HSR.out k hlt
      rw [hx] at hst
      obtain ⟨x, hxx⟩ : ∃ x, x = zs[k] := ⟨_, rfl⟩
      rw [← hxx] at hr hec hst hsr
      obtain ⟨cur, hcur⟩ : ∃ cur, cur = cntF (fun e : EntK => e.state.toNat) 5 (ks.take k) := ⟨_, rfl⟩
      rw [← hcur] at hst h6 hsm hrow
      obtain ⟨s, hs⟩ : ∃ s : Nat, x.state = s := ⟨x.state.toNat, by omega⟩
      have hs2 : x.k.state.toNat = s := by show x.state.toNat = s; omega
      rw [hs2] at hst
      have hbd := hsm s
      have hs5 : s ≤ 4 := by omega
      have hsl : s < (cur.map ints).length := by simp; omega
      have HGD := Lib.hid (show (cur.map ints)[s][0]? = some (.int .i64 (cur.getD s 0)) by
        have : s < cur.length := by omega
        simp [ints, List.getD_eq_getElem?_getD, this])
      obtain ⟨y, hy⟩ : ∃ y, y = cur.getD s 0 := ⟨_, rfl⟩
      rw [← hy] at hbd
      have HY := Lib.hid hy
      have HHST := Lib.hid hst
      have hy2 : y ≤ 10 := by omega
      have hy1 := hbd.1
      have HSL := Lib.hid hsl
      rw [hs] at hec
      have HW1 := Lib.hid hb
      have hrow3 := hrow
      have hc3 := hrow3.cell (k := s) (j := 0) HSL.out (by omega)
      rw [HGD.out, ← HY.out] at hc3
      try simp only [Nat.mul_one, Nat.add_zero] at hc3
      clear hat hk hst hcur hs2 hx hxx h6 hsm hbd hsr hy hrow hb HI HC HSR
      go_wp2_with (first
        | ((with_reducible refine at_load_ 75 ?_); refine Ent.loadImpl rfl _ rfl b (off + k * 5) rfl x hr ?_; rw [hs])
        | ((with_reducible refine at_storeI_ 3 ?_); refine put1_ (e := 3) (sz := 1) rfl _ _ _ rfl infoInt w.heap.size g 5 5 s 0 _ _ _ hrow3 HSL.out (by omega) rfl (by omega) rfl ?_; intro w4 hrow4 hg4))
      have HR4 := Lib.hid (bump_row HSL.out (by rw [HY.out]) hrow4)
      have HB4 := Lib.hid (HW1.out.grown hg4 HW1.out.size (fun q hq => by have := HGE.out; simp at hq; omega))
      go_roundw
      case rel => exact ⟨k + 1, by omega, by go_num, by rw [HHST.out]; exact HR4.out, HB4.out⟩
      case measure => simp [intOf]; omega
    · go_wp2
      go_ret2
      obtain rfl : k = zs.length := by omega
      have e1 : ks.take zs.length = ks := by rw [← HLM.out]; exact List.take_length
      rw [e1] at hrow
      exact ⟨_, rfl, hrow, step_ HW.out (Nat.le_refl _) hb⟩

end Go.Proofs.Ytfmgnbkneccekaa
