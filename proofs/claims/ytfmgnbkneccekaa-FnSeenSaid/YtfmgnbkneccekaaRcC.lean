/- The walks of StillOut, StateCounts and LastSeen. No condition. -/
import Derived.Test.YtfmgnbkneccekaaRcB
import Derived.Test.YtfmgnbkneccekaaBump
namespace Go.Proofs.Ytfmgnbkneccekaa
open Go Go.RowKit

/-- The places at which a state stands. -/
def outL (st : Int) (es : List EntK) : List Int := (es.zipIdx.filter fun x => x.1.state == st).map fun x => (x.2 : Int)
theorem outL_step (st : Int) (es : List EntK) (k : Nat) (h : k < es.length) : outL st (es.take (k + 1)) = outL st (es.take k) ++ if es[k].state = st then [(k : Int)] else [] := by
  unfold outL
  rw [List.take_succ_eq_append_getElem h, List.zipIdx_append, List.filter_append, List.map_append]
  have e : (es.take k).length = k := by simp; omega
  by_cases hs : es[k].state = st <;> simp [hs, e]
theorem outL_len (st : Int) (es : List EntK) : (outL st es).length ≤ es.length := by
  unfold outL
  rw [List.length_map]
  have := List.length_filter_le (fun x : EntK × Nat => x.1.state == st) es.zipIdx
  simpa using this
noncomputable def soV (k : RaceK) : List Int := if goodRace k = true then outL 1 k.field else []
theorem soV_len (k : RaceK) : (soV k).length ≤ 8 := by
  unfold soV
  split
  · rename_i h
    have := outL_len 1 k.field
    have h2 := inB_iff.1 (goodRace_iff.1 h).2.1
    omega
  · simp
noncomputable def stcV (k : RaceK) : List Int := if goodRace k = true then cntF (fun e : EntK => e.state.toNat) 5 k.field else []
theorem stcV_len (k : RaceK) : (stcV k).length ≤ 5 := by
  unfold stcV
  split
  · have := (cntF_inv (fun e : EntK => e.state.toNat) 5 k.field k.field.length (Nat.le_refl _)).1
    rw [List.take_length] at this
    omega
  · simp
theorem entOk_state {cl : Int} {cd : Bool} {i : Nat} {e : EntK} (h : entOk cl cd i e = true) : 0 ≤ e.state ∧ e.state ≤ 4 := by
  unfold entOk at h
  repeat' split at h
  all_goals first | omega | cases h
theorem race_len {k : RaceK} (h : goodRace k = true) : 1 ≤ k.field.length ∧ k.field.length ≤ 8 := by
  have := inB_iff.1 (goodRace_iff.1 h).2.1
  omega

set_option maxRecDepth 100000 in
set_option maxHeartbeats 2000000 in
theorem inState_any (p : Race) (st : Int) (w : World) (h : p.In w) (hl : p.zs.length ≤ 1048576) :
    Calls Try.prog 69 #[p.val, .int .i64 st] w fun e w' => ∃ r, e = .returned r ∧ Row w.heap.size 3 1 w' r ((outL st (p.zs.map Ent.k)).map ints) ∧ Below w.heap.size w w' := by
  have hpl := h.len
  obtain ⟨cl, cd, A, n, c, zs⟩ := p
  simp only at hpl hl
  subst hpl
  have hs : EntS w (.slice A zs.length c) zs := h
  obtain ⟨A', c', hv, hc, hm, hk⟩ := hs.1.open_
  simp only [Value.slice.injEq] at hv
  obtain ⟨rfl, _, rfl⟩ := hv
  have hW : Below w.heap.size w (w.alloc (.cells #[.int .i64 (⟨cl, cd, A, zs.length, c, zs⟩ : Race).clock, .bool (⟨cl, cd, A, zs.length, c, zs⟩ : Race).closed, .slice (⟨cl, cd, A, zs.length, c, zs⟩ : Race).a (⟨cl, cd, A, zs.length, c, zs⟩ : Race).n (⟨cl, cd, A, zs.length, c, zs⟩ : Race).c] 24)) := below_alloc (Below.refl _ _) _
  have own0 : Own w 3 1 ((w.alloc (.cells #[.int .i64 (⟨cl, cd, A, zs.length, c, zs⟩ : Race).clock, .bool (⟨cl, cd, A, zs.length, c, zs⟩ : Race).closed, .slice (⟨cl, cd, A, zs.length, c, zs⟩ : Race).a (⟨cl, cd, A, zs.length, c, zs⟩ : Race).n (⟨cl, cd, A, zs.length, c, zs⟩ : Race).c] 24)).alloc (.cells #[] 3)) (.slice (some ⟨w.heap.size + 1, 0, none⟩) 0 0) [] := Own.nil hW _ (by simp)
  show Calls Try.prog 69 #[.agg #[.int .i64 cl, .bool cd, .slice A zs.length c], .int .i64 st] w fun e w' => ∃ r, e = .returned r ∧ Row w.heap.size 3 1 w' r ((outL st (zs.map Ent.k)).map ints) ∧ Below w.heap.size w w'
  have HST := Lib.hid (outL_step st (zs.map Ent.k))
  have HLN := Lib.hid (outL_len st)
  have HLM := Lib.hid (show (zs.map Ent.k).length = zs.length by simp)
  have HKK := Lib.hid (show ∀ k (h : k < zs.length) (h' : k < (zs.map Ent.k).length), (zs.map Ent.k)[k] = zs[k].k from fun k _ _ => by simp)
  obtain ⟨ks, hks⟩ : ∃ ks, ks = zs.map Ent.k := ⟨_, rfl⟩
  rw [← hks] at HST HLM HKK ⊢
  clear h hs hW hks
  go_enter Try.func69, Try.ntmps69
  go_wp2
  go_loopw [5, 12] (fun o i wr => ∃ k : Nat, k ≤ zs.length ∧ i = .int .i64 k ∧ Own w 3 1 wr o ((outL st (ks.take k)).map ints))
    (fun _ i _ => zs.length - (intOf i).toNat)
  case atStart => exact ⟨0, Nat.zero_le _, rfl, own0⟩
  case round =>
    clear own0
    obtain ⟨k, hkl, rfl, own⟩ := hrel
    by_cases hlt : k < zs.length
    · obtain ⟨b, off, rfl, hat⟩ := flat_at hk (by omega)
      have hr := rangeAt_below (hat k hlt) own.2
      have hkk : k < ks.length := by rw [HLM.out]; exact hlt
      have hst := HST.out k hkk
      rw [HKK.out k hlt hkk] at hst
      have HLL := Lib.hid (show ((outL st (ks.take k)).map ints).length + 1 ≤ 2147483648 by have h1 := HLN.out (ks.take k); simp at h1 ⊢; omega)
      obtain ⟨cur, hcur⟩ : ∃ cur, cur = outL st (ks.take k) := ⟨_, rfl⟩
      rw [← hcur] at hst HLL own
      obtain ⟨x, hx⟩ : ∃ x, x = zs[k] := ⟨_, rfl⟩
      rw [← hx] at hr hst
      have HO1 := Lib.hid (own.alloc (.cells #[.int .i64 x.state, .int .i64 x.card.k.number, .int .i64 x.card.k.start, .int .i64 x.card.k.finish, .slice x.card.a x.card.n x.card.c] 75))
      have hec := Ent.cells (Ent.rangeNew wr x 75)
      simp only [Nat.zero_add] at hec
      have HSTP := Lib.hid hst
      clear hat hk hst hcur hx own
      by_cases hz : x.state = st
      · have hz' : (x.state == st) = true := by simpa using hz
        have HZ := Lib.hid hz
        have HN := Lib.hid (HO1.out.alloc (.cells #[.int .i64 k] 3))
        have HS := Lib.hid (Src.lit (wr.alloc (.cells #[.int .i64 x.state, .int .i64 x.card.k.number, .int .i64 x.card.k.start, .int .i64 x.card.k.finish, .slice x.card.a x.card.n x.card.c] 75)) 3 (ints k) (wr.heap.size + 1) (by simp) rfl (ints_one _))
        clear hz
        go_wp2_with (first
          | ((with_reducible refine at_load_ 75 ?_); refine Ent.loadImpl rfl _ rfl b (off + k * 5) rfl _ hr ?_)
          | (at_builtin; refine tyInt.append rfl _ _ rfl w.heap.size _ _ rfl HN.out.1 _ 1 1 _ rfl HS.out HLL.out HN.out.2.size ?_; intro o5 w5 hrow5 hg5 _))
        have HB5 := Lib.hid (HN.out.2.grown hg5 HN.out.2.size (fun q hq => (HN.out.1.lt q hq).1))
        go_roundw
        case rel => exact ⟨k + 1, by omega, by go_num, by rw [HSTP.out, if_pos (show x.k.state = st from HZ.out), List.map_append]; exact ⟨hrow5, HB5.out⟩⟩
        case measure => simp [intOf]; omega
      · have hz' : (x.state == st) = false := by simpa using hz
        have HZ := Lib.hid hz
        clear hz
        go_wp2_with (first
          | ((with_reducible refine at_load_ 75 ?_); refine Ent.loadImpl rfl _ rfl b (off + k * 5) rfl _ hr ?_))
        go_roundw
        case rel => exact ⟨k + 1, by omega, by go_num, by rw [HSTP.out, if_neg (show ¬ x.k.state = st from HZ.out), List.append_nil]; exact HO1.out⟩
        case measure => simp [intOf]; omega
    · go_wp2
      go_ret
      obtain rfl : k = zs.length := by omega
      have e1 : ks.take zs.length = ks := by rw [← HLM.out]; exact List.take_length
      rw [e1] at own
      exact ⟨_, rfl, own.1, own.2⟩

set_option maxRecDepth 100000 in
set_option maxHeartbeats 2000000 in
theorem l21Out_any (p : Race) (w : World) (h : p.In w) (hl : p.zs.length ≤ 1048576) :
    Calls Try.prog 68 #[p.val] w fun e w' => ∃ r, e = .returned r ∧ Row w.heap.size 3 1 w' r ((outL 1 (p.zs.map Ent.k)).map ints) ∧ Below w.heap.size w w' := by
  have hpl := h.len
  obtain ⟨cl, cd, A, n, c, zs⟩ := p
  simp only at hpl hl
  subst hpl
  have hs : EntS w (.slice A zs.length c) zs := h
  obtain ⟨A', c', hv, hc, hm, hk⟩ := hs.1.open_
  simp only [Value.slice.injEq] at hv
  obtain ⟨rfl, _, rfl⟩ := hv
  have hW : Below w.heap.size w (w.alloc (.cells #[.int .i64 cl, .bool cd, .slice A zs.length c] 24)) := below_alloc (Below.refl _ _) _
  have hrc := Race.cellsNew w ⟨cl, cd, A, zs.length, c, zs⟩ 24
  have own0 : Own w 3 1 ((w.alloc (.cells #[.int .i64 cl, .bool cd, .slice A zs.length c] 24)).alloc (.cells #[] 3)) (.slice (some ⟨w.heap.size + 1, 0, none⟩) 0 0) [] := Own.nil hW _ (by simp)
  show Calls Try.prog 68 #[.agg #[.int .i64 cl, .bool cd, .slice A zs.length c]] w fun e w' => ∃ r, e = .returned r ∧ Row w.heap.size 3 1 w' r ((outL 1 (zs.map Ent.k)).map ints) ∧ Below w.heap.size w w'
  have HST := Lib.hid (outL_step 1 (zs.map Ent.k))
  have HLN := Lib.hid (outL_len 1)
  have HLM := Lib.hid (show (zs.map Ent.k).length = zs.length by simp)
  have HKK := Lib.hid (show ∀ k (h : k < zs.length) (h' : k < (zs.map Ent.k).length), (zs.map Ent.k)[k] = zs[k].k from fun k _ _ => by simp)
  have HRC := Lib.hid hrc
  have HB0 := Lib.hid (show Below (w.alloc (.cells #[.int .i64 cl, .bool cd, .slice A zs.length c] 24)).heap.size (w.alloc (.cells #[.int .i64 cl, .bool cd, .slice A zs.length c] 24)) ((w.alloc (.cells #[.int .i64 cl, .bool cd, .slice A zs.length c] 24)).alloc (.cells #[] 3)) from below_alloc (Below.refl _ _) _)
  obtain ⟨ks, hks⟩ : ∃ ks, ks = zs.map Ent.k := ⟨_, rfl⟩
  rw [← hks] at HST HLM HKK ⊢
  clear h hs hks hrc
  go_enter Try.func68, Try.ntmps68
  go_wp2
  have hsz : (w.alloc (.cells #[.int .i64 cl, .bool cd, .slice A zs.length c] 24)).heap.size = w.heap.size + 1 := by simp
  have own0 : Own (w.alloc (.cells #[.int .i64 cl, .bool cd, .slice A zs.length c] 24)) 3 1 ((w.alloc (.cells #[.int .i64 cl, .bool cd, .slice A zs.length c] 24)).alloc (.cells #[] 3)) (.slice (some ⟨w.heap.size + 1, 0, none⟩) 0 0) [] := Own.nil (Below.refl _ _) _ hsz
  generalize w.alloc (.cells #[.int .i64 cl, .bool cd, .slice A zs.length c] 24) = W at HRC HB0 hW own0 ⊢
  have HW := Lib.hid hW
  clear hsz hW
  go_loopw [3, 4] (fun o i wr => ∃ k : Nat, k ≤ zs.length ∧ i = .int .i64 k ∧ Own W 3 1 wr o ((outL 1 (ks.take k)).map ints))
    (fun _ i _ => zs.length - (intOf i).toNat)
  case atStart => exact ⟨0, Nat.zero_le _, rfl, own0⟩
  case round =>
    clear own0
    obtain ⟨k, hkl, rfl, own⟩ := hrel
    have hrc := (HRC.out ⟨wr, own.2⟩).2.2
    simp only at hrc
    by_cases hlt : k < zs.length
    · obtain ⟨b, off, rfl, hat⟩ := flat_at hk (by omega)
      have hr := (Ent.cells (rangeAt_below (rangeAt_below (hat k hlt) HW.out) own.2)).1
      have hkk : k < ks.length := by rw [HLM.out]; exact hlt
      have hst := HST.out k hkk
      rw [HKK.out k hlt hkk] at hst
      have HLL := Lib.hid (show ((outL 1 (ks.take k)).map ints).length + 1 ≤ 2147483648 by have h1 := HLN.out (ks.take k); simp at h1 ⊢; omega)
      obtain ⟨cur, hcur⟩ : ∃ cur, cur = outL 1 (ks.take k) := ⟨_, rfl⟩
      rw [← hcur] at hst HLL own
      obtain ⟨x, hx⟩ : ∃ x, x = zs[k] := ⟨_, rfl⟩
      rw [← hx] at hr hst
      have HO1 := Lib.hid own
      have HSTP := Lib.hid hst
      clear hat hk hst hcur hx own
      by_cases hz : x.state = 1
      · have hz' : (x.state == 1) = true := by simpa using hz
        have HZ := Lib.hid hz
        have HN := Lib.hid (HO1.out.alloc (.cells #[.int .i64 k] 3))
        have HS := Lib.hid (Src.lit wr 3 (ints k) _ rfl rfl (ints_one _))
        clear hz
        go_wp2_with (at_builtin; refine tyInt.append rfl _ _ rfl W.heap.size _ _ rfl HN.out.1 _ 1 1 _ rfl HS.out HLL.out HN.out.2.size ?_; intro o5 w5 hrow5 hg5 _)
        have HB5 := Lib.hid (HN.out.2.grown hg5 HN.out.2.size (fun q hq => (HN.out.1.lt q hq).1))
        go_roundw
        case rel => exact ⟨k + 1, by omega, by go_num, by rw [HSTP.out, if_pos (show x.k.state = 1 from HZ.out), List.map_append]; exact ⟨hrow5, HB5.out⟩⟩
        case measure => simp [intOf]; omega
      · have hz' : (x.state == 1) = false := by simpa using hz
        have HZ := Lib.hid hz
        clear hz
        go_wp2
        go_roundw
        case rel => exact ⟨k + 1, by omega, by go_num, by rw [HSTP.out, if_neg (show ¬ x.k.state = 1 from HZ.out), List.append_nil]; exact HO1.out⟩
        case measure => simp [intOf]; omega
    · go_wp2
      go_ret
      obtain rfl : k = zs.length := by omega
      have e1 : ks.take zs.length = ks := by rw [← HLM.out]; exact List.take_length
      rw [e1] at own
      exact ⟨_, rfl, own.1.mono HW.out.size, step_ HW.out (Nat.le_refl _) own.2⟩

set_option maxRecDepth 100000 in
set_option maxHeartbeats 2000000 in
theorem impl_StillOut (p : Race) (k : RaceK) (w : World) (hk : p.k = k) (h : p.In w) :
    Calls Try.prog 30 #[p.val] w fun e w' => ∃ r, e = .returned (.tuple #[r, .bool (goodRace k)]) ∧ Row w.heap.size 3 1 w' r ((soV k).map ints) ∧ Below w.heap.size w w' := by
  subst hk
  have hW : Below w.heap.size w (w.alloc (.cells #[.int .i64 p.clock, .bool p.closed, .slice p.a p.n p.c] 24)) := below_alloc (Below.refl _ _) _
  have hrn := Race.rangeNew w p 24
  have HG := Lib.hid (IsRace_any p _ (h.below hW))
  show Calls Try.prog 30 #[.agg #[.int .i64 p.clock, .bool p.closed, .slice p.a p.n p.c]] w _
  by_cases hg : goodRace p.k = true
  rotate_left
  · have hg' : goodRace p.k = false := by simpa using hg
    have HV := Lib.hid (show soV p.k = [] by simp [soV, hg'])
    rw [hg'] at HG ⊢
    rw [HV.out]
    have HW := Lib.hid hW
    clear hg hg' h hW
    go_enter Try.func30, Try.ntmps30
    go_wp2_with (go_at_call 21; refine HG.out.mono ?_; rintro e w1 ⟨rfl, hb1⟩)
    go_ret2
    exact ⟨_, rfl, Row.nil _ _ _ _, step_ HW.out (Nat.le_refl _) hb1⟩
  have hl := race_len hg
  have HV := Lib.hid (show soV p.k = outL 1 (p.zs.map Ent.k) by simp only [soV, hg]; rfl)
  rw [hg] at HG ⊢
  rw [HV.out]
  have HO := Lib.hid (fun W (hW : Below w.heap.size w W) => inState_any p 1 W (h.below hW) (by simp [Race.k] at hl; omega))
  have HW := Lib.hid hW
  clear hg h hW hl
  go_enter Try.func30, Try.ntmps30
  go_wp2_with (first
    | (go_at_call 21; refine HG.out.mono ?_; rintro e w1 ⟨rfl, hb1⟩; have hrc := Race.cells (rangeAt_below hrn hb1); simp only [Nat.zero_add] at hrc)
    | (go_at_call 69; refine (HO.out _ (step_ HW.out (Nat.le_refl _) hb1)).mono ?_; rintro e w2 ⟨r, rfl, row, hb2⟩))
  go_ret2
  exact ⟨_, rfl, row.mono (Nat.le_trans HW.out.size hb1.size), step_ (step_ HW.out (Nat.le_refl _) hb1) (Nat.le_refl _) hb2⟩

set_option maxRecDepth 100000 in
set_option maxHeartbeats 2000000 in
theorem spec_StillOut (p : Race) (k : RaceK) (w : World) (hk : p.k = k) (h : p.In w) :
    Calls Try.prog 29 #[p.val] w fun e w' => ∃ r, e = .returned (.tuple #[r, .bool (goodRace k)]) ∧ Row w.heap.size 3 1 w' r ((soV k).map ints) ∧ Below w.heap.size w w' := by
  subst hk
  have hW : Below w.heap.size w (w.alloc (.cells #[.int .i64 p.clock, .bool p.closed, .slice p.a p.n p.c] 24)) := below_alloc (Below.refl _ _) _
  have hrn := Race.rangeNew w p 24
  have HG := Lib.hid (l21Good_any p _ (h.below hW))
  show Calls Try.prog 29 #[.agg #[.int .i64 p.clock, .bool p.closed, .slice p.a p.n p.c]] w _
  by_cases hg : goodRace p.k = true
  rotate_left
  · have hg' : goodRace p.k = false := by simpa using hg
    have HV := Lib.hid (show soV p.k = [] by simp [soV, hg'])
    rw [hg'] at HG ⊢
    rw [HV.out]
    have HW := Lib.hid hW
    clear hg hg' h hW
    go_enter Try.func29, Try.ntmps29
    go_wp2_with (go_at_call 64; refine HG.out.mono ?_; rintro e w1 ⟨rfl, hb1⟩)
    go_ret2
    exact ⟨_, rfl, (Row.lit_nil w1 3 1 (Nat.le_trans HW.out.size hb1.size)), below_alloc (step_ HW.out (Nat.le_refl _) hb1) _⟩
  have hl := race_len hg
  have HV := Lib.hid (show soV p.k = outL 1 (p.zs.map Ent.k) by simp only [soV, hg]; rfl)
  rw [hg] at HG ⊢
  rw [HV.out]
  have HO := Lib.hid (fun W (hW : Below w.heap.size w W) => l21Out_any p W (h.below hW) (by simp [Race.k] at hl; omega))
  have HW := Lib.hid hW
  clear hg h hW hl
  go_enter Try.func29, Try.ntmps29
  go_wp2_with (first
    | (go_at_call 64; refine HG.out.mono ?_; rintro e w1 ⟨rfl, hb1⟩; have hrc := Race.cells (rangeAt_below hrn hb1); simp only [Nat.zero_add] at hrc)
    | (go_at_call 68; refine (HO.out _ (step_ HW.out (Nat.le_refl _) hb1)).mono ?_; rintro e w2 ⟨r, rfl, row, hb2⟩))
  go_ret2
  exact ⟨_, rfl, row.mono (Nat.le_trans HW.out.size hb1.size), step_ (step_ HW.out (Nat.le_refl _) hb1) (Nat.le_refl _) hb2⟩

end Go.Proofs.Ytfmgnbkneccekaa
