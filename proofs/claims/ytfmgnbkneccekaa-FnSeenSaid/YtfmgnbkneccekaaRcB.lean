/- The walks of the reference's tests on a race; the test whole. No condition. -/
import Derived.Test.YtfmgnbkneccekaaRcA
namespace Go.Proofs.Ytfmgnbkneccekaa
open Go Go.RowKit

set_option maxRecDepth 100000 in
set_option maxHeartbeats 4000000 in
theorem l21One_any (p : Race) (i : Nat) (w : World) (h : p.In w) (hi : i < p.zs.length) (hi8 : i ≤ 8) :
    Calls Try.prog 91 #[p.val, .int .i64 i] w fun e w' => e = .returned (.bool (entOk p.clock p.closed i p.zs[i].k)) ∧ Below w.heap.size w w' := by
  have hpl := h.len
  obtain ⟨cl, cd, A, n, c, zs⟩ := p
  simp only at hpl hi
  subst hpl
  have hs : EntS w (.slice A zs.length c) zs := h
  obtain ⟨A', c', hv, hc, hm, hk⟩ := hs.1.open_
  simp only [Value.slice.injEq] at hv
  obtain ⟨rfl, _, rfl⟩ := hv
  obtain ⟨b, off, rfl, hat⟩ := flat_at hk (by omega)
  have hin := hs.2 _ (List.getElem_mem hi)
  have hr := hat i hi
  show Calls Try.prog 91 #[.agg #[.int .i64 cl, .bool cd, .slice (some ⟨b, off, none⟩) zs.length c], .int .i64 i] w fun e w' => e = .returned (.bool (entOk cl cd i zs[i].k)) ∧ Below w.heap.size w w'
  obtain ⟨z, hz⟩ : ∃ z, z = zs[i] := ⟨_, rfl⟩
  rw [← hz] at hin hr ⊢
  clear hz hat hk h hs
  obtain ⟨st, ⟨⟨r0, r1, r2, sp⟩, B, m, d⟩⟩ := z
  simp only at hin
  have hml := hin.len
  simp only at hml
  subst hml
  have hW0 : Below w.heap.size w (w.alloc (.cells #[.int .i64 cl, .bool cd, .slice (some ⟨b, off, none⟩) zs.length c] 24)) := below_alloc (Below.refl _ _) _
  have hr0 := rangeAt_below hr hW0
  have hW1 : Below w.heap.size w ((w.alloc (.cells #[.int .i64 cl, .bool cd, .slice (some ⟨b, off, none⟩) zs.length c] 24)).alloc (.cells #[.int .i64 st, .int .i64 r0, .int .i64 r1, .int .i64 r2, .slice B sp.length d] 75)) := below_alloc hW0 _
  have hb1 : Below (w.alloc (.cells #[.int .i64 cl, .bool cd, .slice (some ⟨b, off, none⟩) zs.length c] 24)).heap.size (w.alloc (.cells #[.int .i64 cl, .bool cd, .slice (some ⟨b, off, none⟩) zs.length c] 24)) ((w.alloc (.cells #[.int .i64 cl, .bool cd, .slice (some ⟨b, off, none⟩) zs.length c] 24)).alloc (.cells #[.int .i64 st, .int .i64 r0, .int .i64 r1, .int .i64 r2, .slice B sp.length d] 75)) := below_alloc (Below.refl _ _) _
  have hrc := Race.cellsNew w ⟨cl, cd, some ⟨b, off, none⟩, zs.length, c, zs⟩ 24
  have hec := Ent.cellsNew (w.alloc (.cells #[.int .i64 cl, .bool cd, .slice (some ⟨b, off, none⟩) zs.length c] 24)) ⟨st, ⟨⟨r0, r1, r2, sp⟩, B, sp.length, d⟩⟩ 75
  have hcr := Ent.cardRange (Ent.rangeNew (w.alloc (.cells #[.int .i64 cl, .bool cd, .slice (some ⟨b, off, none⟩) zs.length c] 24)) ⟨st, ⟨⟨r0, r1, r2, sp⟩, B, sp.length, d⟩⟩ 75)
  have hsz : (w.alloc (.cells #[.int .i64 cl, .bool cd, .slice (some ⟨b, off, none⟩) zs.length c] 24)).heap.size = w.heap.size + 1 := by simp
  rw [hsz] at hec hcr
  have hrk : ∀ s : After ((w.alloc (.cells #[.int .i64 cl, .bool cd, .slice (some ⟨b, off, none⟩) zs.length c] 24)).alloc (.cells #[.int .i64 st, .int .i64 r0, .int .i64 r1, .int .i64 r2, .slice B sp.length d] 75)), s.w'.cell? ⟨w.heap.size, 0, none⟩ = some (.int .i64 cl) ∧ s.w'.cell? ⟨w.heap.size, 1, none⟩ = some (.bool cd) := fun s => by
    have := hrc ⟨s.w', step_ hb1 (Nat.le_refl _) s.hb⟩
    exact ⟨this.1, this.2.1⟩
  simp only [Nat.zero_add] at hec hcr
  have hrk0 := hrk ⟨_, Below.refl _ _⟩
  have hec0 := hec ⟨_, Below.refl _ _⟩
  simp only at hrk0 hec0
  have HRK := Lib.hid hrk
  have HEC := Lib.hid hec
  have HW := Lib.hid hW1
  have HIN := Lib.hid (hin.below hW1)
  have hrcw := (hrc ⟨_, Below.refl _ _⟩).2.2
  simp only at hrcw
  clear hrk hec hrc hW0 hW1 hb1 hsz hin hr
  obtain ⟨z0, hz0⟩ : ∃ r, zeroCd ⟨r0, r1, r2, sp⟩ = r := ⟨_, rfl⟩
  obtain ⟨q, hq⟩ : ∃ r, cardOk ⟨r0, r1, r2, sp⟩ = r := ⟨_, rfl⟩
  obtain ⟨la, hla⟩ : ∃ r, latestC ⟨r0, r1, r2, sp⟩ = r := ⟨_, rfl⟩
  have HZ := Lib.hid (l21None_any ⟨⟨r0, r1, r2, sp⟩, B, sp.length, d⟩ _ HIN.out)
  have HQ := Lib.hid (fun (s : After ((w.alloc (.cells #[.int .i64 cl, .bool cd, .slice (some ⟨b, off, none⟩) zs.length c] 24)).alloc (.cells #[.int .i64 st, .int .i64 r0, .int .i64 r1, .int .i64 r2, .slice B sp.length d] 75))) => show Calls Try.prog 107 #[.agg #[.int .i64 r0, .int .i64 r1, .int .i64 r2, .slice B sp.length d]] s.w' fun e w' => e = .returned (.bool q) ∧ Below s.w'.heap.size s.w' w' by rw [← hq]; exact l12Card_any ⟨⟨r0, r1, r2, sp⟩, B, sp.length, d⟩ _ (HIN.out.below s.hb))
  have HL := Lib.hid (fun (s : After ((w.alloc (.cells #[.int .i64 cl, .bool cd, .slice (some ⟨b, off, none⟩) zs.length c] 24)).alloc (.cells #[.int .i64 st, .int .i64 r0, .int .i64 r1, .int .i64 r2, .slice B sp.length d] 75))) => show Calls Try.prog 108 #[.agg #[.int .i64 r0, .int .i64 r1, .int .i64 r2, .slice B sp.length d]] s.w' fun e w' => e = .returned (.int .i64 la) ∧ Below s.w'.heap.size s.w' w' by rw [← hla]; exact l21Latest_any ⟨⟨r0, r1, r2, sp⟩, B, sp.length, d⟩ _ (HIN.out.below s.hb))
  simp only at HZ
  rw [hz0] at HZ
  have HFS := Lib.hid (show q = true → decide (0 ≤ r2) = (r2 != -1) from fun h => finish_sign (hq.trans h))
  have HR := Lib.hid (show runningOk cl i ⟨st, ⟨r0, r1, r2, sp⟩⟩ = (q && r0 == (i : Int) + 1 && decide (la ≤ cl) && ((r2 != -1) == (st == 2))) by simp only [runningOk, hq, hla])
  have HE := Lib.hid (show entOk cl cd i (Ent.k ⟨st, ⟨⟨r0, r1, r2, sp⟩, B, sp.length, d⟩⟩) = if st = 0 then z0 && !cd else if st = 4 then z0 && cd else if st = 1 then !cd && runningOk cl i ⟨st, ⟨r0, r1, r2, sp⟩⟩ else if st = 2 ∨ st = 3 then runningOk cl i ⟨st, ⟨r0, r1, r2, sp⟩⟩ else false by rw [← hz0]; rfl)
  clear hz0 hq hla
  rw [HE.out, HR.out]
  by_cases h0 : st = 0
  · subst h0
    cases cd
    all_goals
      go_enter Try.func91, Try.ntmps91
      go_wp2_with (first
        | ((with_reducible refine at_load_ 75 ?_); refine Ent.loadImpl rfl _ rfl b (off + i * 5) rfl _ hr0 ?_)
        | ((with_reducible refine at_load_ 73 ?_); refine Card.loadImpl rfl _ rfl (w.heap.size + 1) 1 rfl ⟨⟨r0, r1, r2, sp⟩, B, sp.length, d⟩ hcr ?_)
        | (go_at_call 106; refine HZ.out.mono ?_; rintro e w3 ⟨rfl, hb⟩))
      all_goals
        go_ret
        first
          | exact ⟨ret_bool (by simp <;> grind), step_ HW.out (Nat.le_refl _) hb⟩
          | exact ⟨ret_bool (by simp <;> grind), HW.out⟩
  have e0 : (st == 0) = false := by simpa using h0
  by_cases h4 : st = 4
  · subst h4
    cases cd
    all_goals
      go_enter Try.func91, Try.ntmps91
      go_wp2_with (first
        | ((with_reducible refine at_load_ 75 ?_); refine Ent.loadImpl rfl _ rfl b (off + i * 5) rfl _ hr0 ?_)
        | ((with_reducible refine at_load_ 73 ?_); refine Card.loadImpl rfl _ rfl (w.heap.size + 1) 1 rfl ⟨⟨r0, r1, r2, sp⟩, B, sp.length, d⟩ hcr ?_)
        | (go_at_call 106; refine HZ.out.mono ?_; rintro e w3 ⟨rfl, hb⟩))
      all_goals
        go_ret
        first
          | exact ⟨ret_bool (by simp <;> grind), step_ HW.out (Nat.le_refl _) hb⟩
          | exact ⟨ret_bool (by simp <;> grind), HW.out⟩
  have e4 : (st == 4) = false := by simpa using h4
  by_cases h123 : st = 1 ∨ st = 2 ∨ st = 3
  · rw [if_neg h0, if_neg h4]
    have hrk2 := HRK.out
    have hec2 := HEC.out
    try simp only at hec2
    clear h0 h4 HE HR hrk0 hec0
    have hq2 : q = true ∨ q = false := by cases q <;> simp
    have hn : r0 = (i : Int) + 1 ∨ (r0 == (i : Int) + 1) = false := by
      by_cases h : r0 = (i : Int) + 1
      · exact .inl h
      · exact .inr (by simpa using h)
    rcases hn with rfl | hn
    all_goals
      rcases h123 with rfl | rfl | rfl
      · cases cd
        · go_enter Try.func91, Try.ntmps91
          go_wp2_with (first
            | ((with_reducible refine at_load_ 75 ?_); refine Ent.loadImpl rfl _ rfl b (off + i * 5) rfl _ hr0 ?_))
          refine region_after (by kernel_rfl) (by kernel_rfl) ?_
          repeat (any_goals (first | go_big_quiet_step ((first | (go_at_call 107; exact Calls.after (v := .bool q) _ (HQ.out _)) | (go_at_call 108; exact Calls.after (v := .int .i64 la) _ (HL.out _)))) | (refine Card.qloadImpl rfl _ rfl (w.heap.size + 1) 1 rfl ⟨⟨_, r1, r2, sp⟩, B, sp.length, d⟩ hcr ?_) | quiet_step ((first | (go_at_call 107; exact Calls.after (v := .bool q) _ (HQ.out _)) | (go_at_call 108; exact Calls.after (v := .int .i64 la) _ (HL.out _)))) | (refine wpQuiet_step (fun K hK => ?_); go_simp; split <;> (refine hK _ ?_; clear hK K))))
          all_goals (refine wpQuiet_nil ?_; intro s)
          all_goals go_wp2
          all_goals
            go_ret
            exact ⟨ret_bool (by have h9 := HFS.out; clear hrk2 hec2; first | (simp <;> grind) | grind), step_ HW.out (Nat.le_refl _) s.hb⟩
        · go_enter Try.func91, Try.ntmps91
          go_wp2_with (first
            | ((with_reducible refine at_load_ 75 ?_); refine Ent.loadImpl rfl _ rfl b (off + i * 5) rfl _ hr0 ?_))
          go_ret
          exact ⟨ret_bool (by simp), HW.out⟩
      all_goals
        go_enter Try.func91, Try.ntmps91
        go_wp2_with (first
          | ((with_reducible refine at_load_ 75 ?_); refine Ent.loadImpl rfl _ rfl b (off + i * 5) rfl _ hr0 ?_))
        refine region_after (by kernel_rfl) (by kernel_rfl) ?_
        repeat (any_goals (first | go_big_quiet_step ((first | (go_at_call 107; exact Calls.after (v := .bool q) _ (HQ.out _)) | (go_at_call 108; exact Calls.after (v := .int .i64 la) _ (HL.out _)))) | (refine Card.qloadImpl rfl _ rfl (w.heap.size + 1) 1 rfl ⟨⟨_, r1, r2, sp⟩, B, sp.length, d⟩ hcr ?_) | quiet_step ((first | (go_at_call 107; exact Calls.after (v := .bool q) _ (HQ.out _)) | (go_at_call 108; exact Calls.after (v := .int .i64 la) _ (HL.out _)))) | (refine wpQuiet_step (fun K hK => ?_); go_simp; split <;> (refine hK _ ?_; clear hK K))))
        all_goals (refine wpQuiet_nil ?_; intro s)
        all_goals go_wp2
        all_goals
          go_ret
          exact ⟨ret_bool (by have h9 := HFS.out; clear hrk2 hec2; first | (simp <;> grind) | grind), step_ HW.out (Nat.le_refl _) s.hb⟩
  · have n1 : ¬ st = 1 := fun h => h123 (.inl h)
    have n2 : ¬ st = 2 := fun h => h123 (.inr (.inl h))
    have n3 : ¬ st = 3 := fun h => h123 (.inr (.inr h))
    have e1 : (st == 1) = false := by simpa using n1
    have e2 : (st == 2) = false := by simpa using n2
    have e3 : (st == 3) = false := by simpa using n3
    rw [if_neg h0, if_neg h4, if_neg n1, if_neg (by omega)]
    clear h0 h4 n1 n2 n3 h123
    go_enter Try.func91, Try.ntmps91
    go_wp2_with ((with_reducible refine at_load_ 75 ?_); refine Ent.loadImpl rfl _ rfl b (off + i * 5) rfl _ hr0 ?_)
    go_ret
    exact ⟨rfl, HW.out⟩

theorem race_cases {k : RaceK} {i : Nat} (h : i < k.field.length) (hn : entOk k.clock k.closed i k.field[i] = false) : goodRace k = false := goodRace_false fun hg => by
  have := hg.2.2 i h
  rw [hn] at this
  cases this
set_option maxRecDepth 100000 in
set_option maxHeartbeats 4000000 in
theorem IsRace_any (p : Race) (w : World) (h : p.In w) :
    Calls Try.prog 21 #[p.val] w fun e w' => e = .returned (.bool (goodRace p.k)) ∧ Below w.heap.size w w' := by
  have hpl := h.len
  have HIN := Lib.hid h
  obtain ⟨cl, cd, A, n, c, zs⟩ := p
  simp only at hpl
  subst hpl
  have hs : EntS w (.slice A zs.length c) zs := h
  obtain ⟨A', c', hv, hc, hm, _⟩ := hs.1.open_
  simp only [Value.slice.injEq] at hv
  obtain ⟨rfl, _, rfl⟩ := hv
  have hW : Below w.heap.size w (w.alloc (.cells #[.int .i64 cl, .bool cd, .slice A zs.length c] 24)) := below_alloc (Below.refl _ _) _
  have hrn := Race.rangeNew w ⟨cl, cd, A, zs.length, c, zs⟩ 24
  have HW := Lib.hid hW
  show Calls Try.prog 21 #[.agg #[.int .i64 cl, .bool cd, .slice A zs.length c]] w _
  obtain ⟨b1, hb1⟩ : ∃ r, inB cl 0 36000 = r := ⟨_, rfl⟩
  obtain ⟨b2, hb2⟩ : ∃ r, inB (zs.length : Int) 1 8 = r := ⟨_, rfl⟩
  have HB1 := Lib.hid hb1
  have HB2 := Lib.hid hb2
  clear h hs hW
  cases b1 with
  | false =>
    go_enter Try.func21, Try.ntmps21
    go_wp2_with (go_at_call 66; refine (isTime_is _ _ hb1 _).mono ?_; rintro e w' ⟨rfl, rfl⟩)
    go_ret
    exact ⟨ret_bool (goodRace_false (fun hg => by have := hg.1; rw [show inB (Race.k ⟨cl, cd, A, zs.length, c, zs⟩).clock 0 36000 = false from HB1.out] at this; cases this)).symm, HW.out⟩
  | true =>
  cases b2 with
  | false =>
    go_enter Try.func21, Try.ntmps21
    go_wp2_with (first
      | (go_at_call 66; refine (isTime_is _ _ hb1 _).mono ?_; rintro e w' ⟨rfl, rfl⟩)
      | (go_at_call 59; refine (inside_is _ _ _ _ hb2 _).mono ?_; rintro e w' ⟨rfl, rfl⟩))
    go_ret
    exact ⟨ret_bool (goodRace_false (fun hg => by have := hg.2.1; simp only [Race.k, List.length_map] at this; rw [HB2.out] at this; cases this)).symm, HW.out⟩
  | true =>
  have hl8 := inB_iff.1 hb2
  go_enter Try.func21, Try.ntmps21
  go_wp2_with (first
    | (go_at_call 66; refine (isTime_is _ _ hb1 _).mono ?_; rintro e w' ⟨rfl, rfl⟩)
    | (go_at_call 59; refine (inside_is _ _ _ _ hb2 _).mono ?_; rintro e w' ⟨rfl, rfl⟩))
  go_loopw [18] (fun i wr => ∃ k : Nat, k ≤ zs.length ∧ i = .int .i64 k ∧ Hid (∀ j (h : j < zs.length), j < k → entOk cl cd j zs[j].k = true) ∧ Below (w.alloc (.cells #[.int .i64 cl, .bool cd, .slice A zs.length c] 24)).heap.size (w.alloc (.cells #[.int .i64 cl, .bool cd, .slice A zs.length c] 24)) wr)
    (fun i _ => zs.length - (intOf i).toNat)
  case atStart => exact ⟨0, Nat.zero_le _, rfl, fun j h hj => absurd hj (by omega), Below.refl _ _⟩
  case round =>
    obtain ⟨k, hkl, rfl, HS, hb⟩ := hrel
    have hrn' := rangeAt_below hrn hb
    have hrc := (Race.cells hrn').2.2
    simp only [Nat.zero_add] at hrc
    by_cases hlt : k < zs.length
    · have HCALL := Lib.hid (isEntrant_any ⟨cl, cd, A, zs.length, c, zs⟩ k wr ((HIN.out.below HW.out).below hb) hlt (by omega))
      obtain ⟨q, hq⟩ : ∃ q, entOk cl cd k zs[k].k = q := ⟨_, rfl⟩
      simp only at HCALL
      rw [hq] at HCALL
      have HQ := Lib.hid hq
      clear hq
      cases q with
      | false =>
        go_wp2_with (first
          | ((with_reducible refine at_load_ 24 ?_); refine Race.loadImpl rfl _ rfl w.heap.size 0 rfl ⟨cl, cd, A, zs.length, c, zs⟩ hrn' ?_)
          | (go_at_call 67; refine HCALL.out.mono ?_; rintro e w3 ⟨rfl, hb3⟩))
        go_ret
        exact ⟨ret_bool (race_cases (k := Race.k ⟨cl, cd, A, zs.length, c, zs⟩) (i := k) (by simpa [Race.k] using hlt) (by simpa [Race.k] using HQ.out)).symm, step_ HW.out (Nat.le_refl _) (step_ hb (Nat.le_refl _) hb3)⟩
      | true =>
        have HY := Lib.hid (show ∀ j (h : j < zs.length), j < k + 1 → entOk cl cd j zs[j].k = true from fun j hj hjk => by
          by_cases e : j < k
          · exact HS.out j hj e
          · obtain rfl : j = k := by omega
            exact HQ.out)
        go_wp2_with (first
          | ((with_reducible refine at_load_ 24 ?_); refine Race.loadImpl rfl _ rfl w.heap.size 0 rfl ⟨cl, cd, A, zs.length, c, zs⟩ hrn' ?_)
          | (go_at_call 67; refine HCALL.out.mono ?_; rintro e w3 ⟨rfl, hb3⟩))
        go_roundw
        case rel => exact ⟨k + 1, by omega, by go_num, HY.out, step_ hb (Nat.le_refl _) hb3⟩
        case measure => simp [intOf]; omega
    · obtain rfl : k = zs.length := by omega
      go_wp2
      go_ret
      exact ⟨ret_bool (goodRace_true ⟨HB1.out, by simp only [Race.k, List.length_map]; exact HB2.out, fun i hi => by simpa [Race.k] using HS.out i (by simpa [Race.k] using hi) (by simpa [Race.k] using hi)⟩).symm, step_ HW.out (Nat.le_refl _) hb⟩

set_option maxRecDepth 100000 in
set_option maxHeartbeats 4000000 in
theorem l21Good_any (p : Race) (w : World) (h : p.In w) :
    Calls Try.prog 64 #[p.val] w fun e w' => e = .returned (.bool (goodRace p.k)) ∧ Below w.heap.size w w' := by
  have hpl := h.len
  have HIN := Lib.hid h
  obtain ⟨cl, cd, A, n, c, zs⟩ := p
  simp only at hpl
  subst hpl
  have hs : EntS w (.slice A zs.length c) zs := h
  obtain ⟨A', c', hv, hc, hm, _⟩ := hs.1.open_
  simp only [Value.slice.injEq] at hv
  obtain ⟨rfl, _, rfl⟩ := hv
  have hW : Below w.heap.size w (w.alloc (.cells #[.int .i64 cl, .bool cd, .slice A zs.length c] 24)) := below_alloc (Below.refl _ _) _
  have hrn := Race.rangeNew w ⟨cl, cd, A, zs.length, c, zs⟩ 24
  have HW := Lib.hid hW
  show Calls Try.prog 64 #[.agg #[.int .i64 cl, .bool cd, .slice A zs.length c]] w _
  obtain ⟨b1, hb1⟩ : ∃ r, inB cl 0 36000 = r := ⟨_, rfl⟩
  obtain ⟨b2, hb2⟩ : ∃ r, inB (zs.length : Int) 1 8 = r := ⟨_, rfl⟩
  have HB1 := Lib.hid hb1
  have HB2 := Lib.hid hb2
  clear h hs hW
  cases b1 with
  | false =>
    go_enter Try.func64, Try.ntmps64
    go_wp2_with (go_at_call 90; refine (l12Time_is _ _ hb1 _).mono ?_; rintro e w' ⟨rfl, rfl⟩)
    go_ret
    exact ⟨ret_bool (goodRace_false (fun hg => by have := hg.1; rw [show inB (Race.k ⟨cl, cd, A, zs.length, c, zs⟩).clock 0 36000 = false from HB1.out] at this; cases this)).symm, HW.out⟩
  | true =>
  cases b2 with
  | false =>
    go_enter Try.func64, Try.ntmps64
    go_wp2_with (first
      | (go_at_call 90; refine (l12Time_is _ _ hb1 _).mono ?_; rintro e w' ⟨rfl, rfl⟩)
      | (go_at_call 58; refine (l1In_is _ _ _ _ hb2 _).mono ?_; rintro e w' ⟨rfl, rfl⟩))
    go_ret
    exact ⟨ret_bool (goodRace_false (fun hg => by have := hg.2.1; simp only [Race.k, List.length_map] at this; rw [HB2.out] at this; cases this)).symm, HW.out⟩
  | true =>
  have hl8 := inB_iff.1 hb2
  go_enter Try.func64, Try.ntmps64
  go_wp2_with (first
    | (go_at_call 90; refine (l12Time_is _ _ hb1 _).mono ?_; rintro e w' ⟨rfl, rfl⟩)
    | (go_at_call 58; refine (l1In_is _ _ _ _ hb2 _).mono ?_; rintro e w' ⟨rfl, rfl⟩))
  go_loopw [3] (fun i wr => ∃ k : Nat, k ≤ zs.length ∧ i = .int .i64 k ∧ Hid (∀ j (h : j < zs.length), j < k → entOk cl cd j zs[j].k = true) ∧ Below (w.alloc (.cells #[.int .i64 cl, .bool cd, .slice A zs.length c] 24)).heap.size (w.alloc (.cells #[.int .i64 cl, .bool cd, .slice A zs.length c] 24)) wr)
    (fun i _ => zs.length - (intOf i).toNat)
  case atStart => exact ⟨0, Nat.zero_le _, rfl, fun j h hj => absurd hj (by omega), Below.refl _ _⟩
  case round =>
    obtain ⟨k, hkl, rfl, HS, hb⟩ := hrel
    have hrn' := rangeAt_below hrn hb
    have hrc := (Race.cells hrn').2.2
    simp only [Nat.zero_add] at hrc
    by_cases hlt : k < zs.length
    · have HCALL := Lib.hid (l21One_any ⟨cl, cd, A, zs.length, c, zs⟩ k wr ((HIN.out.below HW.out).below hb) hlt (by omega))
      obtain ⟨q, hq⟩ : ∃ q, entOk cl cd k zs[k].k = q := ⟨_, rfl⟩
      simp only at HCALL
      rw [hq] at HCALL
      have HQ := Lib.hid hq
      clear hq
      cases q with
      | false =>
        go_wp2_with (first
          | ((with_reducible refine at_load_ 24 ?_); refine Race.loadImpl rfl _ rfl w.heap.size 0 rfl ⟨cl, cd, A, zs.length, c, zs⟩ hrn' ?_)
          | (go_at_call 91; refine HCALL.out.mono ?_; rintro e w3 ⟨rfl, hb3⟩))
        go_ret
        exact ⟨ret_bool (race_cases (k := Race.k ⟨cl, cd, A, zs.length, c, zs⟩) (i := k) (by simpa [Race.k] using hlt) (by simpa [Race.k] using HQ.out)).symm, step_ HW.out (Nat.le_refl _) (step_ hb (Nat.le_refl _) hb3)⟩
      | true =>
        have HY := Lib.hid (show ∀ j (h : j < zs.length), j < k + 1 → entOk cl cd j zs[j].k = true from fun j hj hjk => by
          by_cases e : j < k
          · exact HS.out j hj e
          · obtain rfl : j = k := by omega
            exact HQ.out)
        go_wp2_with (first
          | ((with_reducible refine at_load_ 24 ?_); refine Race.loadImpl rfl _ rfl w.heap.size 0 rfl ⟨cl, cd, A, zs.length, c, zs⟩ hrn' ?_)
          | (go_at_call 91; refine HCALL.out.mono ?_; rintro e w3 ⟨rfl, hb3⟩))
        go_roundw
        case rel => exact ⟨k + 1, by omega, by go_num, HY.out, step_ hb (Nat.le_refl _) hb3⟩
        case measure => simp [intOf]; omega
    · obtain rfl : k = zs.length := by omega
      go_wp2
      go_ret
      exact ⟨ret_bool (goodRace_true ⟨HB1.out, by simp only [Race.k, List.length_map]; exact HB2.out, fun i hi => by simpa [Race.k] using HS.out i (by simpa [Race.k] using hi) (by simpa [Race.k] using hi)⟩).symm, step_ HW.out (Nat.le_refl _) hb⟩

end Go.Proofs.Ytfmgnbkneccekaa
