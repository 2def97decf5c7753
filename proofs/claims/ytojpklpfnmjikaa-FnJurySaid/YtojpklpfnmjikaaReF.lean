/- The walks of TakeOut. No condition. -/
import Derived.Test.YtojpklpfnmjikaaRnO
import Derived.Test.YtojpklpfnmjikaaReQ
namespace Go.Proofs.Ytojpklpfnmjikaa
open Go Go.RowKit

theorem runOk_punches {k : RunK} (h : runOk k = true) : k.card.punches.length ≤ 12 := by
  simp only [runOk, Bool.and_eq_true] at h
  obtain ⟨_, h⟩ := h
  by_cases hs : k.started = true
  · rw [if_pos hs] at h; exact cardOk_len h
  · rw [if_neg hs] at h
    simp only [zeroCd, Bool.and_eq_true, beq_iff_eq] at h
    omega
def outK (k : RunK) : RunK := { k with out := true }
/-- Whether a runner can be taken out. -/
noncomputable def takeB (ks : List RunK) (r : Int) : Bool := goodRs ks && (match ks.find? (fun k => k.runner == r) with | some k => k.started && !k.out | none => false)
noncomputable def takeL (ks : List RunK) (r : Int) : List RunK := if takeB ks r = true then (match ks.findIdx? (fun k => k.runner == r) with | some i => ks.modify i outK | none => ks) else []
theorem takeL_no {ks : List RunK} {r : Int} (h : takeB ks r = false) : takeL ks r = [] := by simp [takeL, h]
theorem takeB_bad {ks : List RunK} {r : Int} (h : goodRs ks = false) : takeB ks r = false := by simp [takeB, h]
theorem takeB_none {ks : List RunK} {r : Int} (h : ks.find? (fun k => k.runner == r) = none) : takeB ks r = false := by simp [takeB, h]
theorem takeB_some {ks : List RunK} {r : Int} {k : RunK} (hg : goodRs ks = true) (h : ks.find? (fun k => k.runner == r) = some k) : takeB ks r = (k.started && !k.out) := by simp [takeB, h, hg]
theorem takeL_at {xs : List Run} {r : Int} {i : Nat} (hi : i < xs.length) (h : isRn r xs[i] = true) (hb : ∀ j (h : j < xs.length), j < i → isRn r xs[j] = false) (ht : takeB (xs.map Run.k) r = true) : takeL (xs.map Run.k) r = (xs.map Run.k).modify i outK := by
  unfold takeL
  rw [if_pos ht]
  have : (xs.map Run.k).findIdx? (fun k => k.runner == r) = some i := by
    rw [List.findIdx?_eq_some_iff_getElem]
    refine ⟨by simpa using hi, by simpa [isRn, Run.k] using h, fun j hj => ?_⟩
    have := hb j (by omega) hj
    simpa [isRn, Run.k] using this
  rw [this]
theorem takeL_len (ks : List RunK) (r : Int) : (takeL ks r).length ≤ 10 := by
  unfold takeL
  split
  · rename_i h
    have hg : goodRs ks = true := by simp only [takeB, Bool.and_eq_true] at h; exact h.1
    have := (goodRs_iff.1 hg).2
    split <;> simp <;> omega
  · simp
theorem takeL_punches (ks : List RunK) (r : Int) : ∀ k ∈ takeL ks r, k.card.punches.length ≤ 12 := by
  intro k hk
  unfold takeL at hk
  split at hk
  · rename_i h
    have hg : goodRs ks = true := by simp only [takeB, Bool.and_eq_true] at h; exact h.1
    have hok : ∀ k ∈ ks, runOk k = true := fun k hk => by
      obtain ⟨j, hj, rfl⟩ := List.getElem_of_mem hk
      exact ((goodRs_iff.1 hg).1 j hj).1
    split at hk
    · obtain ⟨j, hj, rfl⟩ := List.getElem_of_mem hk
      rw [List.getElem_modify]
      have hj' : j < ks.length := by simpa using hj
      split
      · show ks[j].card.punches.length ≤ 12
        exact runOk_punches (hok _ (List.getElem_mem _))
      · exact runOk_punches (hok _ (List.getElem_mem _))
    · exact runOk_punches (hok _ hk)
  · simp at hk

theorem takeL_small (ks : List RunK) (r : Int) : (takeL ks r).length ≤ 1048576 ∧ ∀ k ∈ takeL ks r, k.card.punches.length ≤ 1048576 :=
  ⟨by have := takeL_len ks r; omega, fun k hk => by have := takeL_punches ks r k hk; omega⟩

set_option maxRecDepth 100000 in
set_option maxHeartbeats 4000000 in
theorem impl_TakeOut (xs : List Run) (ks : List RunK) (v : Value) (r : Int) (w : World) (hks : xs.map Run.k = ks) (h : RunS w v xs) (_ : I64 r) :
    Calls Try.prog 20 #[v, .int .i64 r] w fun e w' => ∃ v' zs, e = .returned (.tuple #[v', .bool (takeB ks r)]) ∧ zs.map Run.k = takeL ks r ∧ RunR w.heap.size w' v' zs ∧ Below w.heap.size w w' := by
  subst hks
  have HFI := Lib.hid (runIndex_any xs r v w h)
  have HAS := Lib.hid (fun W (hW : Below w.heap.size w W) => areRuns_any xs v W (h.below hW))
  rcases idxA_cases (isRn r) xs with ⟨hi, _⟩ | ⟨i, hil, hi, hpi, hbef⟩
  · have hT := takeB_none (findR_none hi)
    have HV := Lib.hid (takeL_no hT)
    have HT := Lib.hid hT
    rw [hi] at HFI
    rw [HV.out, HT.out]
    obtain ⟨q, hq⟩ : ∃ q, goodRs (xs.map Run.k) = q := ⟨_, rfl⟩
    rw [hq] at HAS
    clear hq hi h hT
    cases q <;>
    · go_enter Try.func20, Try.ntmps20
      go_wp2_with (first
        | (go_at_call 58; refine HFI.out.mono ?_; rintro e w1 ⟨rfl, hb1⟩)
        | (go_at_call 17; refine (HAS.out _ hb1).mono ?_; rintro e w2 ⟨rfl, hb2⟩))
      go_ret2
      exact ⟨_, [], rfl, rfl, RunR.nil, step_ hb1 (Nat.le_refl _) hb2⟩
  have hfd := findR_at hil hpi hbef
  rw [hi] at HFI
  have hi0 : ¬ ((i : Int) < 0) := by omega
  by_cases hg : goodRs (xs.map Run.k) = true
  rotate_left
  · have hg' : goodRs (xs.map Run.k) = false := by simpa using hg
    have hT := takeB_bad (r := r) hg'
    have HV := Lib.hid (takeL_no hT)
    have HT := Lib.hid hT
    rw [hg'] at HAS
    rw [HV.out, HT.out]
    clear hg hg' h hT hpi hbef hi hfd
    go_enter Try.func20, Try.ntmps20
    go_wp2_with (first
      | (go_at_call 58; refine HFI.out.mono ?_; rintro e w1 ⟨rfl, hb1⟩)
      | (go_at_call 17; refine (HAS.out _ hb1).mono ?_; rintro e w2 ⟨rfl, hb2⟩))
    go_ret2
    exact ⟨_, [], rfl, rfl, RunR.nil, step_ hb1 (Nat.le_refl _) hb2⟩
  have hTE := takeB_some hg hfd
  have HLT := Lib.hid (fun ht => takeL_at hil hpi hbef ht)
  have hxl := goodRs_len hg
  have HOWN := Lib.hid (fun W (hW : Below w.heap.size w W) => newRuns_any xs v W (h.below hW) (by omega) (fun p hp => by have := runOk_punches (goodRs_ok hg p hp); simp only [Run.k] at this; omega))
  rw [hg] at HAS
  obtain ⟨A, c, rfl, hc, hm, hk⟩ := h.1.open_
  obtain ⟨b, off, rfl, hat⟩ := flat_at hk (by omega)
  have HRI := Lib.hid (hat i hil)
  have HXI := Lib.hid (show ∀ zs : List Run, zs.map Run.k = xs.map Run.k → ∃ hz : i < zs.length, zs[i].k = xs[i].k from fun zs hz => by
    have hl : zs.length = xs.length := by simpa using congrArg List.length hz
    refine ⟨by omega, ?_⟩
    have h1 : (zs.map Run.k)[i]? = (xs.map Run.k)[i]? := by rw [hz]
    simpa [show i < zs.length by omega, hil] using h1)
  obtain ⟨x, hx⟩ : ∃ x, x = xs[i] := ⟨_, rfl⟩
  rw [← hx] at hTE HRI
  clear hpi hbef hi hfd hg h hk hat hx
  by_cases hto : x.started = true ∧ x.out = false
  rotate_left
  · have hT : takeB (xs.map Run.k) r = false := by
      rw [hTE]
      simp only [Run.k]
      cases h1 : x.started <;> cases h2 : x.out <;> first | rfl | exact absurd ⟨h1, h2⟩ hto
    have HV := Lib.hid (takeL_no hT)
    have HT := Lib.hid hT
    rw [HV.out, HT.out]
    obtain ⟨x0, x1, x2, xc⟩ := x
    simp only at hto
    clear hT hTE HLT
    cases x1 <;> cases x2 <;> first
      | exact absurd ⟨rfl, rfl⟩ hto
      | (clear hto
         go_enter Try.func20, Try.ntmps20
         go_wp2_with (first
           | (go_at_call 58; refine HFI.out.mono ?_; rintro e w1 ⟨rfl, hb1⟩)
           | (go_at_call 17; refine (HAS.out _ hb1).mono ?_; rintro e w2 ⟨rfl, hb2⟩; have hrc := Run.cells (rangeAt_below HRI.out (step_ hb1 (Nat.le_refl _) hb2))))
         go_ret2
         exact ⟨_, [], rfl, rfl, RunR.nil, step_ hb1 (Nat.le_refl _) hb2⟩
         )
  obtain ⟨ht1, ht2⟩ := hto
  have hT : takeB (xs.map Run.k) r = true := by rw [hTE]; simp only [Run.k, ht1, ht2]; rfl
  have HV := Lib.hid (HLT.out hT)
  have HT := Lib.hid hT
  rw [HV.out, HT.out]
  obtain ⟨x0, x1, x2, xc⟩ := x
  simp only at ht1 ht2
  subst ht1 ht2
  clear hT hTE HLT
  go_enter Try.func20, Try.ntmps20
  go_wp2_with (first
    | (go_at_call 58; refine HFI.out.mono ?_; rintro e w1 ⟨rfl, hb1⟩)
    | (go_at_call 17; refine (HAS.out _ hb1).mono ?_; rintro e w2 ⟨rfl, hb2⟩; have hrc := Run.cells (rangeAt_below HRI.out (step_ hb1 (Nat.le_refl _) hb2)); have hB2 := step_ hb1 (Nat.le_refl _) hb2)
    | (go_at_call 59
       refine (HOWN.out _ hB2).mono ?_
       rintro e w3 ⟨v', zs, rfl, hzk, hR, hb3⟩
       obtain ⟨hzi, hzx⟩ := HXI.out zs hzk
       obtain ⟨g, cap, rfl, hbg, hgl, hcap⟩ := Go.Proofs.Ytojpklpfnmjikaa.Row.form hR.1 (by simp; omega)
       simp only [List.length_map] at hR hcap ⊢
       have hcm : cap ≤ 9223372036854775807 := by
         obtain ⟨_, _, h1, _, h3⟩ := hR.1.parts
         simp only [Value.slice.injEq] at h1
         omega
       have hrow := hR.1
       have hiy : i < (zs.map Run.lst).length := by simpa using hzi
       have hrz := hrow.range hiy
       have HGET := Lib.hid (show (zs.map Run.lst)[i]'hiy = zs[i].lst by simp)
       rw [HGET.out] at hrz
       have HR := Lib.hid hR
       have HB3 := Lib.hid (step_ hB2 (Nat.le_refl _) hb3)
       have HW2 := Lib.hid hB2.size
       have HZK := Lib.hid hzk
       clear hb1 hb2 hB2 hb3 hR hzk hzx hrc)
    | (refine putB_ (e := 53) (sz := 7) rfl _ _ _ rfl infoBool w2.heap.size g zs.length cap i 2 _ _ _ hrow ?_ (by omega) rfl (by omega) rfl ?_; (simpa using hzi); intro w4 hrow4 hg4)
    )
  have hz' : Row w2.heap.size 53 7 w4 (.slice (some ⟨g, 0, none⟩) zs.length cap) ((zs.map Run.lst).set i (Run.lst { zs[i] with out := true })) := by
    rw [HGET.out] at hrow4
    exact Row.set_eq hrow4 rfl
  have hin := Row.kept (HR.out.2.1 zs[i] (List.getElem_mem hzi)).1 hg4 (HR.out.2.1 zs[i] (List.getElem_mem hzi)).2
  have hup := HR.out.upd hzi { zs[i] with out := true } rfl hz' hg4 hin (World.grownBy.refl _ _)
  have HUP := Lib.hid (hup.mono HW2.out)
  have HB4 := Lib.hid (HB3.out.grown hg4 HB3.out.size (fun q hq => Nat.le_trans HW2.out (HR.out.1.lt q hq).1))
  clear hin hup hz' hrow4 hg4
  go_wp2
  go_ret2
  first
    | refine ⟨_, rfl, zs.set i { zs[i] with out := true }, ?_, HUP.out, HB4.out⟩
    | refine ⟨_, zs.set i { zs[i] with out := true }, rfl, ?_, HUP.out, HB4.out⟩
  rw [List.map_set, ← HZK.out]
  apply List.ext_getElem?
  intro j
  rw [List.getElem?_set, List.getElem?_modify]
  by_cases e : i = j
  · subst e
    simp [hzi, Run.k, outK]
  · simp [e]

set_option maxRecDepth 100000 in
set_option maxHeartbeats 4000000 in
theorem spec_TakeOut (xs : List Run) (ks : List RunK) (v : Value) (r : Int) (w : World) (hks : xs.map Run.k = ks) (h : RunS w v xs) (_ : I64 r) :
    Calls Try.prog 19 #[v, .int .i64 r] w fun e w' => ∃ v' zs, e = .returned (.tuple #[v', .bool (takeB ks r)]) ∧ zs.map Run.k = takeL ks r ∧ RunR w.heap.size w' v' zs ∧ Below w.heap.size w w' := by
  subst hks
  have HFI := Lib.hid (l15Find_any xs r v w h)
  have HAS := Lib.hid (fun W (hW : Below w.heap.size w W) => l15Good_any xs v W (h.below hW))
  rcases idxA_cases (isRn r) xs with ⟨hi, _⟩ | ⟨i, hil, hi, hpi, hbef⟩
  · have hT := takeB_none (findR_none hi)
    have HV := Lib.hid (takeL_no hT)
    have HT := Lib.hid hT
    rw [hi] at HFI
    rw [HV.out, HT.out]
    obtain ⟨q, hq⟩ : ∃ q, goodRs (xs.map Run.k) = q := ⟨_, rfl⟩
    rw [hq] at HAS
    clear hq hi h hT
    cases q <;>
    · go_enter Try.func19, Try.ntmps19
      go_wp2_with (first
        | (go_at_call 56; refine HFI.out.mono ?_; rintro e w1 ⟨rfl, hb1⟩)
        | (go_at_call 52; refine (HAS.out _ hb1).mono ?_; rintro e w2 ⟨rfl, hb2⟩))
      go_ret2
      exact ⟨_, [], rfl, rfl, RunR.lit rfl (Nat.le_trans hb1.size hb2.size), below_alloc (step_ hb1 (Nat.le_refl _) hb2) _⟩
  have hfd := findR_at hil hpi hbef
  rw [hi] at HFI
  have hi0 : ¬ ((i : Int) < 0) := by omega
  by_cases hg : goodRs (xs.map Run.k) = true
  rotate_left
  · have hg' : goodRs (xs.map Run.k) = false := by simpa using hg
    have hT := takeB_bad (r := r) hg'
    have HV := Lib.hid (takeL_no hT)
    have HT := Lib.hid hT
    rw [hg'] at HAS
    rw [HV.out, HT.out]
    clear hg hg' h hT hpi hbef hi hfd
    go_enter Try.func19, Try.ntmps19
    go_wp2_with (first
      | (go_at_call 56; refine HFI.out.mono ?_; rintro e w1 ⟨rfl, hb1⟩)
      | (go_at_call 52; refine (HAS.out _ hb1).mono ?_; rintro e w2 ⟨rfl, hb2⟩))
    go_ret2
    exact ⟨_, [], rfl, rfl, RunR.lit rfl (Nat.le_trans hb1.size hb2.size), below_alloc (step_ hb1 (Nat.le_refl _) hb2) _⟩
  have hTE := takeB_some hg hfd
  have HLT := Lib.hid (fun ht => takeL_at hil hpi hbef ht)
  have hxl := goodRs_len hg
  have HOWN := Lib.hid (fun W (hW : Below w.heap.size w W) => l15Own_any xs v W (h.below hW) (by omega) (fun p hp => by have := runOk_punches (goodRs_ok hg p hp); simp only [Run.k] at this; omega))
  rw [hg] at HAS
  obtain ⟨A, c, rfl, hc, hm, hk⟩ := h.1.open_
  obtain ⟨b, off, rfl, hat⟩ := flat_at hk (by omega)
  have HRI := Lib.hid (hat i hil)
  have HXI := Lib.hid (show ∀ zs : List Run, zs.map Run.k = xs.map Run.k → ∃ hz : i < zs.length, zs[i].k = xs[i].k from fun zs hz => by
    have hl : zs.length = xs.length := by simpa using congrArg List.length hz
    refine ⟨by omega, ?_⟩
    have h1 : (zs.map Run.k)[i]? = (xs.map Run.k)[i]? := by rw [hz]
    simpa [show i < zs.length by omega, hil] using h1)
  obtain ⟨x, hx⟩ : ∃ x, x = xs[i] := ⟨_, rfl⟩
  rw [← hx] at hTE HRI
  clear hpi hbef hi hfd hg h hk hat hx
  by_cases hto : x.started = true ∧ x.out = false
  rotate_left
  · have hT : takeB (xs.map Run.k) r = false := by
      rw [hTE]
      simp only [Run.k]
      cases h1 : x.started <;> cases h2 : x.out <;> first | rfl | exact absurd ⟨h1, h2⟩ hto
    have HV := Lib.hid (takeL_no hT)
    have HT := Lib.hid hT
    rw [HV.out, HT.out]
    obtain ⟨x0, x1, x2, xc⟩ := x
    simp only at hto
    clear hT hTE HLT
    cases x1 <;> cases x2 <;> first
      | exact absurd ⟨rfl, rfl⟩ hto
      | (clear hto
         go_enter Try.func19, Try.ntmps19
         go_wp2_with (first
           | (go_at_call 56; refine HFI.out.mono ?_; rintro e w1 ⟨rfl, hb1⟩)
           | (go_at_call 52; refine (HAS.out _ hb1).mono ?_; rintro e w2 ⟨rfl, hb2⟩; have hrc := Run.cells (rangeAt_below HRI.out (step_ hb1 (Nat.le_refl _) hb2))))
         go_ret2
         exact ⟨_, [], rfl, rfl, RunR.lit rfl (Nat.le_trans hb1.size hb2.size), below_alloc (step_ hb1 (Nat.le_refl _) hb2) _⟩
         )
  obtain ⟨ht1, ht2⟩ := hto
  have hT : takeB (xs.map Run.k) r = true := by rw [hTE]; simp only [Run.k, ht1, ht2]; rfl
  have HV := Lib.hid (HLT.out hT)
  have HT := Lib.hid hT
  rw [HV.out, HT.out]
  obtain ⟨x0, x1, x2, xc⟩ := x
  simp only at ht1 ht2
  subst ht1 ht2
  clear hT hTE HLT
  go_enter Try.func19, Try.ntmps19
  go_wp2_with (first
    | (go_at_call 56; refine HFI.out.mono ?_; rintro e w1 ⟨rfl, hb1⟩)
    | (go_at_call 52; refine (HAS.out _ hb1).mono ?_; rintro e w2 ⟨rfl, hb2⟩; have hrc := Run.cells (rangeAt_below HRI.out (step_ hb1 (Nat.le_refl _) hb2)); have hB2 := step_ hb1 (Nat.le_refl _) hb2)
    | (go_at_call 57
       refine (HOWN.out _ hB2).mono ?_
       rintro e w3 ⟨v', zs, rfl, hzk, hR, hb3⟩
       obtain ⟨hzi, hzx⟩ := HXI.out zs hzk
       obtain ⟨g, cap, rfl, hbg, hgl, hcap⟩ := Go.Proofs.Ytojpklpfnmjikaa.Row.form hR.1 (by simp; omega)
       simp only [List.length_map] at hR hcap ⊢
       have hcm : cap ≤ 9223372036854775807 := by
         obtain ⟨_, _, h1, _, h3⟩ := hR.1.parts
         simp only [Value.slice.injEq] at h1
         omega
       have hrow := hR.1
       have hiy : i < (zs.map Run.lst).length := by simpa using hzi
       have hrz := hrow.range hiy
       have HGET := Lib.hid (show (zs.map Run.lst)[i]'hiy = zs[i].lst by simp)
       rw [HGET.out] at hrz
       have HR := Lib.hid hR
       have HB3 := Lib.hid (step_ hB2 (Nat.le_refl _) hb3)
       have HW2 := Lib.hid hB2.size
       have HZK := Lib.hid hzk
       clear hb1 hb2 hB2 hb3 hR hzk hzx hrc)
    | ((with_reducible refine at_load_ 53 ?_); refine Run.loadImpl rfl _ rfl g (i * 7) rfl zs[i] (by first | exact hrz | simpa using hrz) ?_)
    | ((with_reducible refine at_store_ (w := w3.alloc (.cells #[.int .i64 zs[i].runner, .bool zs[i].started, .bool true, .int .i64 zs[i].card.k.number, .int .i64 zs[i].card.k.start, .int .i64 zs[i].card.k.finish, .slice zs[i].card.a zs[i].card.n zs[i].card.c] 53)) 53 ?_)
       refine tyRun.store rfl _ _ rfl w2.heap.size g zs.length cap i _ _ (Run.lst { zs[i] with out := true }) (hrow.alloc _) hiy rfl rfl rfl rfl (Run.one _) ?_; intro w4 hrow4 hg4)
    )
  have hz' := hrow4
  have hb4 : Below w3.heap.size w3 (w3.alloc (.cells #[.int .i64 zs[i].runner, .bool zs[i].started, .bool true, .int .i64 zs[i].card.k.number, .int .i64 zs[i].card.k.start, .int .i64 zs[i].card.k.finish, .slice zs[i].card.a zs[i].card.n zs[i].card.c] 53)) := below_alloc (Below.refl _ _) _
  have HR := Lib.hid (HR.out.below hb4)
  have HB3 := Lib.hid (step_ HB3.out (Nat.le_refl _) hb4)
  have hin := Row.kept (HR.out.2.1 zs[i] (List.getElem_mem hzi)).1 hg4 (HR.out.2.1 zs[i] (List.getElem_mem hzi)).2
  have hup := HR.out.upd hzi { zs[i] with out := true } rfl hz' hg4 hin (World.grownBy.refl _ _)
  have HUP := Lib.hid (hup.mono HW2.out)
  have HB4 := Lib.hid (HB3.out.grown hg4 HB3.out.size (fun q hq => Nat.le_trans HW2.out (HR.out.1.lt q hq).1))
  clear hin hup hz' hrow4 hg4
  go_wp2
  go_ret2
  first
    | refine ⟨_, rfl, zs.set i { zs[i] with out := true }, ?_, HUP.out, HB4.out⟩
    | refine ⟨_, zs.set i { zs[i] with out := true }, rfl, ?_, HUP.out, HB4.out⟩
  rw [List.map_set, ← HZK.out]
  apply List.ext_getElem?
  intro j
  rw [List.getElem?_set, List.getElem?_modify]
  by_cases e : i = j
  · subst e
    simp [hzi, Run.k, outK]
  · simp [e]

end Go.Proofs.Ytojpklpfnmjikaa
