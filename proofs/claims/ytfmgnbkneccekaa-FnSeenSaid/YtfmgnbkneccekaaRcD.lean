/- The walks of StateCounts, LastSeen; IsRace. No condition. -/
import Derived.Test.YtfmgnbkneccekaaRcC
namespace Go.Proofs.Ytfmgnbkneccekaa
open Go Go.RowKit

theorem impl_IsRace (p : Race) (k : RaceK) (w : World) (hk : p.k = k) (h : p.In w) :
    Calls Try.prog 21 #[p.val] w fun e w' => e = .returned (.bool (goodRace k)) ∧ Below w.heap.size w w' := hk ▸ IsRace_any p w h
theorem spec_IsRace (p : Race) (k : RaceK) (w : World) (hk : p.k = k) (h : p.In w) :
    Calls Try.prog 19 #[p.val] w fun e w' => e = .returned (.bool (goodRace k)) ∧ Below w.heap.size w w' := by
  subst hk
  have hW : Below w.heap.size w (w.alloc (.cells #[.int .i64 p.clock, .bool p.closed, .slice p.a p.n p.c] 24)) := below_alloc (Below.refl _ _) _
  have HG := Lib.hid (l21Good_any p _ (h.below hW))
  show Calls Try.prog 19 #[.agg #[.int .i64 p.clock, .bool p.closed, .slice p.a p.n p.c]] w _
  go_enter Try.func19, Try.ntmps19
  go_wp2_with (go_at_call 64; refine HG.out.mono ?_; rintro e w1 ⟨rfl, hb1⟩)
  go_ret
  exact ⟨rfl, step_ hW (Nat.le_refl _) hb1⟩

/-- The number and the time at which an entrant was seen last. -/
noncomputable def lsV (k : RaceK) (i : Int) : Int × Int × Bool :=
  if goodRace k = true ∧ 0 ≤ i ∧ i < k.field.length then
    match k.field[i.toNat]? with
    | some e => if e.state = 1 ∨ e.state = 3 then (match e.card.punches.getLast? with | some p => (p.code, p.time, true) | none => (0, e.card.start, true)) else (0, 0, false)
    | none => (0, 0, false)
  else (0, 0, false)

set_option maxRecDepth 100000 in
set_option maxHeartbeats 4000000 in
theorem impl_LastSeen (p : Race) (k : RaceK) (j : Int) (w : World) (hk : p.k = k) (h : p.In w) (_ : I64 j) :
    Calls Try.prog 23 #[p.val, .int .i64 j] w fun e w' => e = .returned (.tuple #[.int .i64 (lsV k j).1, .int .i64 (lsV k j).2.1, .bool (lsV k j).2.2]) ∧ Below w.heap.size w w' := by
  subst hk
  have hpl := h.len
  have HIN := Lib.hid h
  obtain ⟨cl, cd, A, n, c, zs⟩ := p
  simp only at hpl
  subst hpl
  have hs : EntS w (.slice A zs.length c) zs := h
  obtain ⟨A', c', hv, hc, hm, hk⟩ := hs.1.open_
  simp only [Value.slice.injEq] at hv
  obtain ⟨rfl, _, rfl⟩ := hv
  have hW : Below w.heap.size w (w.alloc (.cells #[.int .i64 cl, .bool cd, .slice A zs.length c] 24)) := below_alloc (Below.refl _ _) _
  have HG := Lib.hid (IsRace_any _ _ (h.below hW))
  have hrn := Race.rangeNew w ⟨cl, cd, A, zs.length, c, zs⟩ 24
  have hrc := Race.cellsNew w ⟨cl, cd, A, zs.length, c, zs⟩ 24
  have HRC := Lib.hid (fun W hW => (hrc ⟨W, hW⟩).2.2)
  have HW := Lib.hid hW
  show Calls Try.prog 23 #[.agg #[.int .i64 cl, .bool cd, .slice A zs.length c], .int .i64 j] w _
  by_cases hg : goodRace (Race.k ⟨cl, cd, A, zs.length, c, zs⟩) = true
  rotate_left
  · have hg' : goodRace (Race.k ⟨cl, cd, A, zs.length, c, zs⟩) = false := by simpa using hg
    have HV := Lib.hid (show lsV (Race.k ⟨cl, cd, A, zs.length, c, zs⟩) j = (0, 0, false) by simp [lsV, hg'])
    rw [hg'] at HG
    rw [HV.out]
    clear hg hg' h hs hW hrc
    go_enter Try.func23, Try.ntmps23
    go_wp2_with (go_at_call 21; refine HG.out.mono ?_; rintro e w1 ⟨rfl, hb1⟩)
    go_ret3
    exact ⟨rfl, step_ HW.out (Nat.le_refl _) hb1⟩
  have hl := race_len hg
  simp only [Race.k, List.length_map] at hl
  obtain ⟨hl1, hl8⟩ := hl
  by_cases hj : 0 ≤ j ∧ j < (zs.length : Int)
  rotate_left
  · have HV := Lib.hid (show lsV (Race.k ⟨cl, cd, A, zs.length, c, zs⟩) j = (0, 0, false) by
      unfold lsV
      rw [if_neg]
      simp only [Race.k, List.length_map]
      intro h
      exact hj h.2)
    have hin : inB j 0 ((zs.length : Int) - 1) = false := by
      have : ¬ inB j 0 ((zs.length : Int) - 1) = true := by rw [inB_iff]; omega
      simpa using this
    rw [hg] at HG
    rw [HV.out]
    clear hg hj h hs hW hrc
    go_enter Try.func23, Try.ntmps23
    go_wp2_with (first
      | (go_at_call 21; refine HG.out.mono ?_; rintro e w1 ⟨rfl, hb1⟩; have hrc1 := HRC.out _ hb1; try simp only at hrc1)
      | (go_at_call 59; refine (inside_is _ _ _ _ hin _).mono ?_; rintro e w' ⟨rfl, rfl⟩))
    go_ret3
    exact ⟨rfl, step_ HW.out (Nat.le_refl _) hb1⟩
  obtain ⟨i, rfl⟩ : ∃ i : Nat, j = i := ⟨j.toNat, by omega⟩
  have hin : inB (i : Int) 0 ((zs.length : Int) - 1) = true := inB_true (by omega) (by omega)
  have hi : i < zs.length := by omega
  obtain ⟨b, off, rfl, hat⟩ := flat_at hk (by omega)
  have hei := hs.2 _ (List.getElem_mem hi)
  have hr := hat i hi
  have hVV : lsV (Race.k ⟨cl, cd, some ⟨b, off, none⟩, zs.length, c, zs⟩) i = (if zs[i].k.state = 1 ∨ zs[i].k.state = 3 then (match zs[i].k.card.punches.getLast? with | some p => (p.code, p.time, true) | none => (0, zs[i].k.card.start, true)) else (0, 0, false)) := by
    unfold lsV
    rw [if_pos ⟨hg, by omega, by simp only [Race.k, List.length_map]; omega⟩]
    simp only [Race.k, Int.toNat_natCast, List.getElem?_map, List.getElem?_eq_getElem hi, Option.map_some]
  have hoke := (goodRace_iff.1 hg).2.2 i (by simpa [Race.k] using hi)
  simp only [Race.k, List.getElem_map] at hoke
  rw [hg] at HG
  obtain ⟨z, hz⟩ : ∃ z, z = zs[i] := ⟨_, rfl⟩
  rw [← hz] at hei hr hVV hoke
  have HVV := Lib.hid hVV
  clear hz hat hk h hs hg hVV hrc
  obtain ⟨st, ⟨⟨r0, r1, r2, sp⟩, B, m, d⟩⟩ := z
  have hml := hei.len
  simp only at hml hei
  subst hml
  have hps : Sl (Flat Punch.lst) 2 w (.slice B sp.length d) sp := hei
  obtain ⟨B', d', hv', hd, hdm, hpk⟩ := hps.open_
  simp only [Value.slice.injEq] at hv'
  obtain ⟨rfl, _, rfl⟩ := hv'
  have HR := Lib.hid (rangeAt_below hr hW)
  have hvv := HVV.out
  simp only [Ent.k] at hoke hvv
  clear hr hps hei hW HVV
  obtain ⟨V, hV⟩ : ∃ V, V = lsV (Race.k ⟨cl, cd, some ⟨b, off, none⟩, zs.length, c, zs⟩) i := ⟨_, rfl⟩
  rw [← hV] at hvv ⊢
  clear hV
  by_cases h13 : st = 1 ∨ st = 3
  rotate_left
  · have n1 : (st != 1) = true := by simpa using fun h => h13 (.inl h)
    have n3 : (st != 3) = true := by simpa using fun h => h13 (.inr h)
    have hvv := hvv.trans (if_neg h13)
    subst hvv
    clear h13 hoke
    go_enter Try.func23, Try.ntmps23
    go_wp2_with (first
      | (go_at_call 21; refine HG.out.mono ?_; rintro e w1 ⟨rfl, hb1⟩; have hrc1 := HRC.out _ hb1; try simp only at hrc1; have hre := rangeAt_below HR.out hb1)
      | (go_at_call 59; refine (inside_is _ _ _ _ hin _).mono ?_; rintro e w' ⟨rfl, rfl⟩)
      | ((with_reducible refine at_load_ 75 ?_); refine Ent.loadImpl rfl _ rfl b (off + i * 5) rfl _ hre ?_))
    go_ret3
    exact ⟨rfl, below_alloc (step_ HW.out (Nat.le_refl _) hb1) _⟩
  have hvv := hvv.trans (if_pos h13)
  have HPK := Lib.hid (fun W (hW : Below w.heap.size w W) => hW)
  rcases List.eq_nil_or_concat sp with h0 | ⟨pre, q, h0⟩
  · subst h0
    simp only [List.getLast?_nil] at hvv
    subst hvv
    clear hoke hpk
    have hec := fun (w1 : World) => Ent.cellsNew w1 ⟨st, ⟨⟨r0, r1, r2, []⟩, B, 0, d⟩⟩ 75
    simp only [List.length_nil] at HR
    rcases h13 with rfl | rfl
    all_goals
      go_enter Try.func23, Try.ntmps23
      go_wp2_with (first
        | (go_at_call 21; refine HG.out.mono ?_; rintro e w1 ⟨rfl, hb1⟩; have hrc1 := HRC.out _ hb1; try simp only at hrc1; have hre := rangeAt_below HR.out hb1; have hec1 := hec w1; simp only at hec1; have HB := Lib.hid (step_ HW.out (Nat.le_refl _) hb1); clear hec)
        | (go_at_call 59; refine (inside_is _ _ _ _ hin _).mono ?_; rintro e w' ⟨rfl, rfl⟩)
        | ((with_reducible refine at_load_ 75 ?_); refine Ent.loadImpl rfl _ rfl b (off + i * 5) rfl _ hre ?_))
      refine region_after (by kernel_rfl) (by kernel_rfl) ?_
      repeat (any_goals (first | go_big_quiet_step (fail)  | quiet_step (fail)))
      refine wpQuiet_nil ?_
      intro s
      go_wp2
      go_ret3
      exact ⟨rfl, step_ (below_alloc HB.out _) (Nat.le_refl _) s.hb⟩
  · have hlen : sp.length = pre.length + 1 := by rw [h0]; simp
    have hlast : sp.getLast? = some q := by rw [h0]; simp
    have hq : sp[pre.length]'(by omega) = q := by simp [h0]
    rw [hlast] at hvv
    simp only at hvv
    subst hvv
    obtain ⟨pb, po, rfl, pat⟩ := flat_at hpk (by omega)
    have hpq := pat pre.length (by omega)
    rw [hq] at hpq
    have HPQ := Lib.hid (rangeAt_below hpq HW.out)
    obtain ⟨N, hN⟩ : ∃ N, N = pre.length := ⟨_, rfl⟩
    rw [← hN] at hlen HPQ
    have hec := fun (w1 : World) => Ent.cellsNew w1 ⟨st, ⟨⟨r0, r1, r2, sp⟩, some ⟨pb, po, none⟩, sp.length, d⟩⟩ 75
    rw [hlen] at hec HR hd
    have hN12 : N ≤ 11 := by
      have h9 : cardOk ⟨r0, r1, r2, sp⟩ = true := by
        rcases h13 with rfl | rfl <;> (simp [entOk, runningOk] at hoke; first | exact hoke.2.1.1.1 | exact hoke.1.1.1)
      have := cardOk_len h9
      simp only at this
      omega
    have e1 : ((N + 1 : Nat) : Int) - 1 = (N : Int) := by omega
    have e2 : (((N + 1 : Nat) : Int) == 0) = false := by rw [beq_eq_false_iff_ne]; omega
    have e3 : ¬ (((N + 1 : Nat) : Int) - 1 < 0) := by omega
    have HPC := Lib.hid (fun w1 (hb1 : Below (w.alloc (.cells #[.int .i64 cl, .bool cd, .slice (some ⟨b, off, none⟩) zs.length c] 24)).heap.size (w.alloc (.cells #[.int .i64 cl, .bool cd, .slice (some ⟨b, off, none⟩) zs.length c] 24)) w1) => Punch.cellsOld (rangeAt_below (rangeAt_below HPQ.out hb1) (below_alloc (Below.refl _ _) (.cells #[.int .i64 st, .int .i64 r0, .int .i64 r1, .int .i64 r2, .slice (some ⟨pb, po, none⟩) (N + 1) d] 75))))
    clear hoke hpk pat hpq hN h0 hlast hq hlen
    rcases h13 with rfl | rfl
    all_goals
      go_enter Try.func23, Try.ntmps23
      go_wp2_with (first
        | (go_at_call 21; refine HG.out.mono ?_; rintro e w1 ⟨rfl, hb1⟩; have hrc1 := HRC.out _ hb1; try simp only at hrc1; have hre := rangeAt_below HR.out hb1; have hec1 := hec w1; simp only at hec1; have HB := Lib.hid (step_ HW.out (Nat.le_refl _) hb1); have hpc := HPC.out _ hb1; clear hec)
        | (go_at_call 59; refine (inside_is _ _ _ _ hin _).mono ?_; rintro e w' ⟨rfl, rfl⟩)
        | ((with_reducible refine at_load_ 75 ?_); refine Ent.loadImpl rfl _ rfl b (off + i * 5) rfl ⟨_, ⟨⟨r0, r1, r2, sp⟩, some ⟨pb, po, none⟩, N + 1, d⟩⟩ hre ?_))
      refine region_after (by kernel_rfl) (by kernel_rfl) ?_
      repeat (any_goals (first | go_big_quiet_step (fail)  | quiet_step (fail)))
      refine wpQuiet_nil ?_
      intro s
      go_wp2
      go_ret3
      exact ⟨rfl, step_ (below_alloc HB.out _) (Nat.le_refl _) s.hb⟩

set_option maxRecDepth 100000 in
set_option maxHeartbeats 4000000 in
theorem spec_LastSeen (p : Race) (k : RaceK) (j : Int) (w : World) (hk : p.k = k) (h : p.In w) (_ : I64 j) :
    Calls Try.prog 22 #[p.val, .int .i64 j] w fun e w' => e = .returned (.tuple #[.int .i64 (lsV k j).1, .int .i64 (lsV k j).2.1, .bool (lsV k j).2.2]) ∧ Below w.heap.size w w' := by
  subst hk
  have hpl := h.len
  have HIN := Lib.hid h
  obtain ⟨cl, cd, A, n, c, zs⟩ := p
  simp only at hpl
  subst hpl
  have hs : EntS w (.slice A zs.length c) zs := h
  obtain ⟨A', c', hv, hc, hm, hk⟩ := hs.1.open_
  simp only [Value.slice.injEq] at hv
  obtain ⟨rfl, _, rfl⟩ := hv
  have hW : Below w.heap.size w (w.alloc (.cells #[.int .i64 cl, .bool cd, .slice A zs.length c] 24)) := below_alloc (Below.refl _ _) _
  have HG := Lib.hid (l21Good_any _ _ (h.below hW))
  have hrn := Race.rangeNew w ⟨cl, cd, A, zs.length, c, zs⟩ 24
  have hrc := Race.cellsNew w ⟨cl, cd, A, zs.length, c, zs⟩ 24
  have HRC := Lib.hid (fun W hW => (hrc ⟨W, hW⟩).2.2)
  have HW := Lib.hid hW
  show Calls Try.prog 22 #[.agg #[.int .i64 cl, .bool cd, .slice A zs.length c], .int .i64 j] w _
  by_cases hg : goodRace (Race.k ⟨cl, cd, A, zs.length, c, zs⟩) = true
  rotate_left
  · have hg' : goodRace (Race.k ⟨cl, cd, A, zs.length, c, zs⟩) = false := by simpa using hg
    have HV := Lib.hid (show lsV (Race.k ⟨cl, cd, A, zs.length, c, zs⟩) j = (0, 0, false) by simp [lsV, hg'])
    rw [hg'] at HG
    rw [HV.out]
    clear hg hg' h hs hW hrc
    go_enter Try.func22, Try.ntmps22
    go_wp2_with (go_at_call 64; refine HG.out.mono ?_; rintro e w1 ⟨rfl, hb1⟩)
    go_ret3
    exact ⟨rfl, step_ HW.out (Nat.le_refl _) hb1⟩
  have hl := race_len hg
  simp only [Race.k, List.length_map] at hl
  obtain ⟨hl1, hl8⟩ := hl
  by_cases hj : 0 ≤ j ∧ j < (zs.length : Int)
  rotate_left
  · have HV := Lib.hid (show lsV (Race.k ⟨cl, cd, A, zs.length, c, zs⟩) j = (0, 0, false) by
      unfold lsV
      rw [if_neg]
      simp only [Race.k, List.length_map]
      intro h
      exact hj h.2)
    have hin : inB j 0 ((zs.length : Int) - 1) = false := by
      have : ¬ inB j 0 ((zs.length : Int) - 1) = true := by rw [inB_iff]; omega
      simpa using this
    rw [hg] at HG
    rw [HV.out]
    clear hg hj h hs hW hrc
    go_enter Try.func22, Try.ntmps22
    go_wp2_with (first
      | (go_at_call 64; refine HG.out.mono ?_; rintro e w1 ⟨rfl, hb1⟩; have hrc1 := HRC.out _ hb1; try simp only at hrc1)
      | (go_at_call 58; refine (l1In_is _ _ _ _ hin _).mono ?_; rintro e w' ⟨rfl, rfl⟩))
    go_ret3
    exact ⟨rfl, step_ HW.out (Nat.le_refl _) hb1⟩
  obtain ⟨i, rfl⟩ : ∃ i : Nat, j = i := ⟨j.toNat, by omega⟩
  have hin : inB (i : Int) 0 ((zs.length : Int) - 1) = true := inB_true (by omega) (by omega)
  have hi : i < zs.length := by omega
  obtain ⟨b, off, rfl, hat⟩ := flat_at hk (by omega)
  have hei := hs.2 _ (List.getElem_mem hi)
  have hr := hat i hi
  have hVV : lsV (Race.k ⟨cl, cd, some ⟨b, off, none⟩, zs.length, c, zs⟩) i = (if zs[i].k.state = 1 ∨ zs[i].k.state = 3 then (match zs[i].k.card.punches.getLast? with | some p => (p.code, p.time, true) | none => (0, zs[i].k.card.start, true)) else (0, 0, false)) := by
    unfold lsV
    rw [if_pos ⟨hg, by omega, by simp only [Race.k, List.length_map]; omega⟩]
    simp only [Race.k, Int.toNat_natCast, List.getElem?_map, List.getElem?_eq_getElem hi, Option.map_some]
  have hoke := (goodRace_iff.1 hg).2.2 i (by simpa [Race.k] using hi)
  simp only [Race.k, List.getElem_map] at hoke
  rw [hg] at HG
  obtain ⟨z, hz⟩ : ∃ z, z = zs[i] := ⟨_, rfl⟩
  rw [← hz] at hei hr hVV hoke
  have HVV := Lib.hid hVV
  clear hz hat hk h hs hg hVV hrc
  obtain ⟨st, ⟨⟨r0, r1, r2, sp⟩, B, m, d⟩⟩ := z
  have hml := hei.len
  simp only at hml hei
  subst hml
  have hps : Sl (Flat Punch.lst) 2 w (.slice B sp.length d) sp := hei
  obtain ⟨B', d', hv', hd, hdm, hpk⟩ := hps.open_
  simp only [Value.slice.injEq] at hv'
  obtain ⟨rfl, _, rfl⟩ := hv'
  have HR := Lib.hid (rangeAt_below hr hW)
  have hvv := HVV.out
  simp only [Ent.k] at hoke hvv
  clear hr hps hei hW HVV
  obtain ⟨V, hV⟩ : ∃ V, V = lsV (Race.k ⟨cl, cd, some ⟨b, off, none⟩, zs.length, c, zs⟩) i := ⟨_, rfl⟩
  rw [← hV] at hvv ⊢
  clear hV
  by_cases h13 : st = 1 ∨ st = 3
  rotate_left
  · have n1 : (st != 1) = true := by simpa using fun h => h13 (.inl h)
    have n3 : (st != 3) = true := by simpa using fun h => h13 (.inr h)
    have hvv := hvv.trans (if_neg h13)
    subst hvv
    clear h13 hoke
    go_enter Try.func22, Try.ntmps22
    go_wp2_with (first
      | (go_at_call 64; refine HG.out.mono ?_; rintro e w1 ⟨rfl, hb1⟩; have hrc1 := HRC.out _ hb1; try simp only at hrc1; have hre := rangeAt_below HR.out hb1)
      | (go_at_call 58; refine (l1In_is _ _ _ _ hin _).mono ?_; rintro e w' ⟨rfl, rfl⟩)
      | ((with_reducible refine at_load_ 75 ?_); refine Ent.loadImpl rfl _ rfl b (off + i * 5) rfl _ hre ?_))
    go_ret3
    exact ⟨rfl, below_alloc (step_ HW.out (Nat.le_refl _) hb1) _⟩
  have hvv := hvv.trans (if_pos h13)
  have HPK := Lib.hid (fun W (hW : Below w.heap.size w W) => hW)
  rcases List.eq_nil_or_concat sp with h0 | ⟨pre, q, h0⟩
  · subst h0
    simp only [List.getLast?_nil] at hvv
    subst hvv
    clear hoke hpk
    have hec := fun (w1 : World) => Ent.cellsNew w1 ⟨st, ⟨⟨r0, r1, r2, []⟩, B, 0, d⟩⟩ 75
    simp only [List.length_nil] at HR
    rcases h13 with rfl | rfl
    all_goals
      go_enter Try.func22, Try.ntmps22
      go_wp2_with (first
        | (go_at_call 64; refine HG.out.mono ?_; rintro e w1 ⟨rfl, hb1⟩; have hrc1 := HRC.out _ hb1; try simp only at hrc1; have hre := rangeAt_below HR.out hb1; have hec1 := hec w1; simp only at hec1; have HB := Lib.hid (step_ HW.out (Nat.le_refl _) hb1); clear hec)
        | (go_at_call 58; refine (l1In_is _ _ _ _ hin _).mono ?_; rintro e w' ⟨rfl, rfl⟩)
        | ((with_reducible refine at_load_ 75 ?_); refine Ent.loadImpl rfl _ rfl b (off + i * 5) rfl _ hre ?_))
      refine region_after (by kernel_rfl) (by kernel_rfl) ?_
      repeat (any_goals (first | go_big_quiet_step (fail)  | quiet_step (fail)))
      refine wpQuiet_nil ?_
      intro s
      go_wp2
      go_ret3
      exact ⟨rfl, step_ (below_alloc HB.out _) (Nat.le_refl _) s.hb⟩
  · have hlen : sp.length = pre.length + 1 := by rw [h0]; simp
    have hlast : sp.getLast? = some q := by rw [h0]; simp
    have hq : sp[pre.length]'(by omega) = q := by simp [h0]
    rw [hlast] at hvv
    simp only at hvv
    subst hvv
    obtain ⟨pb, po, rfl, pat⟩ := flat_at hpk (by omega)
    have hpq := pat pre.length (by omega)
    rw [hq] at hpq
    have HPQ := Lib.hid (rangeAt_below hpq HW.out)
    obtain ⟨N, hN⟩ : ∃ N, N = pre.length := ⟨_, rfl⟩
    rw [← hN] at hlen HPQ
    have hec := fun (w1 : World) => Ent.cellsNew w1 ⟨st, ⟨⟨r0, r1, r2, sp⟩, some ⟨pb, po, none⟩, sp.length, d⟩⟩ 75
    rw [hlen] at hec HR hd
    have hN12 : N ≤ 11 := by
      have h9 : cardOk ⟨r0, r1, r2, sp⟩ = true := by
        rcases h13 with rfl | rfl <;> (simp [entOk, runningOk] at hoke; first | exact hoke.2.1.1.1 | exact hoke.1.1.1)
      have := cardOk_len h9
      simp only at this
      omega
    have e1 : ((N + 1 : Nat) : Int) - 1 = (N : Int) := by omega
    have e2 : (((N + 1 : Nat) : Int) == 0) = false := by rw [beq_eq_false_iff_ne]; omega
    have e3 : ¬ (((N + 1 : Nat) : Int) - 1 < 0) := by omega
    have HPC := Lib.hid (fun w1 (hb1 : Below (w.alloc (.cells #[.int .i64 cl, .bool cd, .slice (some ⟨b, off, none⟩) zs.length c] 24)).heap.size (w.alloc (.cells #[.int .i64 cl, .bool cd, .slice (some ⟨b, off, none⟩) zs.length c] 24)) w1) => Punch.cellsOld (rangeAt_below (rangeAt_below HPQ.out hb1) (below_alloc (Below.refl _ _) (.cells #[.int .i64 st, .int .i64 r0, .int .i64 r1, .int .i64 r2, .slice (some ⟨pb, po, none⟩) (N + 1) d] 75))))
    clear hoke hpk pat hpq hN h0 hlast hq hlen
    rcases h13 with rfl | rfl
    all_goals
      go_enter Try.func22, Try.ntmps22
      go_wp2_with (first
        | (go_at_call 64; refine HG.out.mono ?_; rintro e w1 ⟨rfl, hb1⟩; have hrc1 := HRC.out _ hb1; try simp only at hrc1; have hre := rangeAt_below HR.out hb1; have hec1 := hec w1; simp only at hec1; have HB := Lib.hid (step_ HW.out (Nat.le_refl _) hb1); have hpc := HPC.out _ hb1; clear hec)
        | (go_at_call 58; refine (l1In_is _ _ _ _ hin _).mono ?_; rintro e w' ⟨rfl, rfl⟩)
        | ((with_reducible refine at_load_ 75 ?_); refine Ent.loadImpl rfl _ rfl b (off + i * 5) rfl ⟨_, ⟨⟨r0, r1, r2, sp⟩, some ⟨pb, po, none⟩, N + 1, d⟩⟩ hre ?_))
      refine region_after (by kernel_rfl) (by kernel_rfl) ?_
      repeat (any_goals (first | go_big_quiet_step (fail)  | quiet_step (fail)))
      refine wpQuiet_nil ?_
      intro s
      go_wp2
      go_ret3
      exact ⟨rfl, step_ (below_alloc HB.out _) (Nat.le_refl _) s.hb⟩

end Go.Proofs.Ytfmgnbkneccekaa
