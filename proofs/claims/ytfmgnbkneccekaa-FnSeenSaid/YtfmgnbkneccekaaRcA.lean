/- The walks of the tests on a race. No condition. -/
import Derived.Test.YtfmgnbkneccekaaRcW
import Derived.Test.YtfmgnbkneccekaaIdxA
namespace Go.Proofs.Ytfmgnbkneccekaa
open Go Go.RowKit

set_option maxHeartbeats 1000000 in
theorem indexFunc_96 (cap0 : Value) (pr : Punch → Bool) (ps : List Punch) (v : Value) (w : World) (h : Sl (Flat Punch.lst) 2 w v ps)
    (hf : ∀ s : After w, ∀ k (hk : k < ps.length), Calls Try.prog 96 #[ps[k].val, cap0] s.w' fun e w' => e = .returned (.bool (pr ps[k])) ∧ Below s.w'.heap.size s.w' w') :
    Calls Try.prog 111 #[v, .func (.func 96) #[] #[cap0]] w fun e w' => e = .returned (.int .i64 (idxA pr ps)) ∧ Below w.heap.size w w' := by
  obtain ⟨A, c, rfl, hc, hm, hk⟩ := h.open_
  have HF := Lib.hid hf
  clear hf
  go_enter Try.func111, Try.ntmps111
  go_wp2
  go_loopw [8] (fun i wr => ∃ k : Nat, k ≤ ps.length ∧ i = .int .i64 k ∧ Hid (∀ j (h : j < ps.length), j < k → pr ps[j] = false) ∧ Below w.heap.size w wr)
    (fun i _ => ps.length - (intOf i).toNat)
  case atStart => exact ⟨0, Nat.zero_le _, rfl, fun j h hj => absurd hj (by omega), Below.refl _ _⟩
  case round =>
    obtain ⟨k, hkl, rfl, HS, hb⟩ := hrel
    by_cases hlt : k < ps.length
    · obtain ⟨b, off, rfl, hat⟩ := flat_at hk (by omega)
      have hr := rangeAt_below (hat k hlt) hb
      clear hat hk h
      go_wp2_with ((with_reducible refine at_load_ 89 ?_); refine Punch.loadImpl rfl _ rfl b (off + k * 2) rfl ps[k] hr ?_)
      refine (HF.out ⟨wr, hb⟩ k hlt).mono ?_
      rintro e w2 ⟨rfl, hb2⟩
      have hB := step_ hb (Nat.le_refl _) hb2
      by_cases hp : pr ps[k] = true
      · have HP := Lib.hid hp
        rw [hp]
        clear hp
        go_wp2
        go_ret
        exact ⟨ret_int (idxA_found hlt HP.out HS.out).symm, hB⟩
      · have hp' : pr ps[k] = false := by simpa using hp
        have HP := Lib.hid hp'
        rw [hp']
        clear hp hp'
        go_wp2
        go_roundw
        case rel => exact ⟨k + 1, by omega, by go_num, fun j hj hjk => by
          by_cases e : j < k
          · exact HS.out j hj e
          · obtain rfl : j = k := by omega
            exact HP.out, hB⟩
        case measure => simp [intOf]; omega
    · go_wp2
      go_ret
      obtain rfl : k = ps.length := by omega
      exact ⟨ret_int (idxA_none fun j hj => HS.out j hj hj).symm, hb⟩


theorem containsFunc_96 (cap0 : Value) (pr : Punch → Bool) (ps : List Punch) (v : Value) (w : World) (h : Sl (Flat Punch.lst) 2 w v ps)
    (hf : ∀ s : After w, ∀ k (hk : k < ps.length), Calls Try.prog 96 #[ps[k].val, cap0] s.w' fun e w' => e = .returned (.bool (pr ps[k])) ∧ Below s.w'.heap.size s.w' w') :
    Calls Try.prog 95 #[v, .func (.func 96) #[] #[cap0]] w fun e w' => e = .returned (.bool (ps.any pr)) ∧ Below w.heap.size w w' := by
  have HI := Lib.hid (idxA_any pr ps)
  obtain ⟨r, hr⟩ : ∃ r, idxA pr ps = r := ⟨_, rfl⟩
  have hc := indexFunc_96 cap0 pr ps v w h hf
  rw [hr] at hc HI
  clear hr
  go_enter Try.func95, Try.ntmps95
  go_wp2_with (go_at_call 111; refine hc.mono ?_; rintro e w1 ⟨rfl, hb1⟩)
  go_ret
  exact ⟨ret_bool HI.out, hb1⟩


theorem lateP_any (p : Punch) (b : Nat) (clock : Int) (w : World) (hc : w.cell? ⟨b, 0, none⟩ = some (.int .i64 clock)) :
    Calls Try.prog 96 #[p.val, .pointer (some ⟨b, 0, none⟩)] w fun e w' => e = .returned (.bool (decide (clock < p.time))) ∧ Below w.heap.size w w' := by
  obtain ⟨x, y⟩ := p
  have hlt := block_lt_of_cell hc
  simp only at hlt
  show Calls Try.prog 96 #[.agg #[.int .i64 x, .int .i64 y], .pointer (some ⟨b, 0, none⟩)] w _
  have hcw : (w.alloc (.cells #[.int .i64 x, .int .i64 y] 89)).cell? ⟨b, 0, none⟩ = some (.int .i64 clock) := After.keep hc ⟨_, below_alloc (Below.refl _ _) _⟩
  go_enter Try.func96, Try.ntmps96
  go_wp2
  go_ret
  exact ⟨rfl, by (repeat (first | exact Below.refl _ _ | assumption | refine Below.drew ?_ | refine Below.alloc ?_ (by first | exact Nat.le_refl _ | (simp; done) | (simp; omega)) _))⟩

theorem l1Most_any (a b : Int) (w : World) : Calls Try.prog 104 #[.int .i64 a, .int .i64 b] w fun e w' => e = .returned (.int .i64 (max a b)) ∧ w = w' := by
  go_enter Try.func104, Try.ntmps104
  go_wp2
  all_goals (go_ret; exact ⟨ret_int (by omega), rfl⟩)

theorem l21None_any (p : Card) (w : World) (h : p.In w) : Calls Try.prog 106 #[p.val] w fun e w' => e = .returned (.bool (zeroCd p.k)) ∧ Below w.heap.size w w' := by
  have hpl := h.len
  obtain ⟨⟨r0, r1, r2, sp⟩, A, n, c⟩ := p
  simp only at hpl
  subst hpl
  show Calls Try.prog 106 #[.agg #[.int .i64 r0, .int .i64 r1, .int .i64 r2, .slice A sp.length c]] w _
  clear h
  have HZ := Lib.hid (show zeroCd ⟨r0, r1, r2, sp⟩ = (r0 == 0 && r1 == 0 && r2 == 0 && sp.length == 0) from rfl)
  go_enter Try.func106, Try.ntmps106
  go_wp2
  all_goals
    go_ret
    refine ⟨ret_bool ?_, below_alloc (Below.refl _ _) _⟩
    simp only [HZ.out]
    try simp
    try grind

set_option maxHeartbeats 1000000 in
theorem l21Latest_any (p : Card) (w : World) (h : p.In w) : Calls Try.prog 108 #[p.val] w fun e w' => e = .returned (.int .i64 (latestC p.k)) ∧ Below w.heap.size w w' := by
  have hpl := h.len
  obtain ⟨⟨r0, r1, r2, sp⟩, A, n, c⟩ := p
  have hs : Sl (Flat Punch.lst) 2 w (.slice A n c) sp := h
  simp only at hpl
  subst hpl
  obtain ⟨A', c', hv, hc, hm, hk⟩ := hs.open_
  simp only [Value.slice.injEq] at hv
  obtain ⟨rfl, _, rfl⟩ := hv
  have hcn := Card.cellsNew w ⟨⟨r0, r1, r2, sp⟩, A, sp.length, c⟩ 73
  simp only at hcn
  have HW := Lib.hid (show Below w.heap.size w (w.alloc (.cells #[.int .i64 r0, .int .i64 r1, .int .i64 r2, .slice A sp.length c] 73)) from below_alloc (Below.refl _ _) _)
  show Calls Try.prog 108 #[.agg #[.int .i64 r0, .int .i64 r1, .int .i64 r2, .slice A sp.length c]] w _
  clear h hs
  go_enter Try.func108, Try.ntmps108
  go_wp2_with (go_at_call 104; refine (l1Most_any _ _ _).mono ?_; rintro e w1 ⟨rfl, rfl⟩)
  generalize w.alloc (.cells #[.int .i64 r0, .int .i64 r1, .int .i64 r2, .slice A sp.length c] 73) = W at hcn HW ⊢
  go_loopw [3, 4] (fun l i wr => ∃ k : Nat, k ≤ sp.length ∧ i = .int .i64 k ∧ l = .int .i64 ((sp.take k).foldl (fun a p => max a p.time) (max r1 r2)) ∧ Below W.heap.size W wr)
    (fun _ i _ => sp.length - (intOf i).toNat)
  case atStart => exact ⟨0, Nat.zero_le _, rfl, by simp, Below.refl _ _⟩
  case round =>
    obtain ⟨k, hkl, rfl, rfl, hb⟩ := hrel
    have hcc := hcn ⟨wr, hb⟩
    simp only at hcc
    by_cases hlt : k < sp.length
    · obtain ⟨b, off, rfl, hat⟩ := flat_at hk (by omega)
      have hpc := Punch.cells (rangeAt_below (rangeAt_below (hat k hlt) HW.out) hb)
      have HS := Lib.hid (show (sp.take (k + 1)).foldl (fun a p => max a p.time) (max r1 r2) = max ((sp.take k).foldl (fun a p => max a p.time) (max r1 r2)) sp[k].time by rw [List.take_succ_eq_append_getElem hlt, List.foldl_append]; rfl)
      obtain ⟨cur, hcur⟩ : ∃ cur, cur = (sp.take k).foldl (fun a p => max a p.time) (max r1 r2) := ⟨_, rfl⟩
      rw [← hcur] at HS ⊢
      obtain ⟨x, hx⟩ : ∃ x, x = sp[k] := ⟨_, rfl⟩
      rw [← hx] at HS hpc
      clear hat hk hcur hx
      go_wp2_with (go_at_call 104; refine (l1Most_any _ _ _).mono ?_; rintro e w1 ⟨rfl, rfl⟩)
      go_roundw
      case rel => exact ⟨k + 1, by omega, by go_num, by rw [HS.out], hb⟩
      case measure => simp [intOf]; omega
    · go_wp2
      go_ret
      obtain rfl : k = sp.length := by omega
      rw [List.take_length]
      exact ⟨rfl, step_ HW.out (Nat.le_refl _) hb⟩

set_option maxRecDepth 100000 in
set_option maxHeartbeats 4000000 in
theorem isEntrant_any (p : Race) (i : Nat) (w : World) (h : p.In w) (hi : i < p.zs.length) (hi8 : i ≤ 8) :
    Calls Try.prog 67 #[p.val, .int .i64 i] w fun e w' => e = .returned (.bool (entOk p.clock p.closed i p.zs[i].k)) ∧ Below w.heap.size w w' := by
  have hpl := h.len
  obtain ⟨cl, cd, A, n, c, zs⟩ := p
  simp only at hpl hi
  subst hpl
  have hs : EntS w (.slice A zs.length c) zs := h
  obtain ⟨A', c', hv, hc, hm, hk⟩ := hs.1.open_
  simp only [Value.slice.injEq] at hv
  obtain ⟨rfl, _, rfl⟩ := hv
  obtain ⟨b, off, rfl, hat⟩ := flat_at hk (by omega)
  have hin := hs.2 _ (List.getElem_mem hi)
  have hr := hat i hi
  show Calls Try.prog 67 #[.agg #[.int .i64 cl, .bool cd, .slice (some ⟨b, off, none⟩) zs.length c], .int .i64 i] w fun e w' => e = .returned (.bool (entOk cl cd i zs[i].k)) ∧ Below w.heap.size w w'
  obtain ⟨z, hz⟩ : ∃ z, z = zs[i] := ⟨_, rfl⟩
  rw [← hz] at hin hr ⊢
  clear hz hat hk h hs
  obtain ⟨st, ⟨⟨r0, r1, r2, sp⟩, B, m, d⟩⟩ := z
  simp only at hin
  have hml := hin.len
  simp only at hml
  subst hml
  have hW0 : Below w.heap.size w (w.alloc (.cells #[.int .i64 cl, .bool cd, .slice (some ⟨b, off, none⟩) zs.length c] 24)) := below_alloc (Below.refl _ _) _
  have hr0 := rangeAt_below hr hW0
  have hW1 : Below w.heap.size w ((w.alloc (.cells #[.int .i64 cl, .bool cd, .slice (some ⟨b, off, none⟩) zs.length c] 24)).alloc (.cells #[.int .i64 st, .int .i64 r0, .int .i64 r1, .int .i64 r2, .slice B sp.length d] 75)) := below_alloc hW0 _
  have hb1 : Below (w.alloc (.cells #[.int .i64 cl, .bool cd, .slice (some ⟨b, off, none⟩) zs.length c] 24)).heap.size (w.alloc (.cells #[.int .i64 cl, .bool cd, .slice (some ⟨b, off, none⟩) zs.length c] 24)) ((w.alloc (.cells #[.int .i64 cl, .bool cd, .slice (some ⟨b, off, none⟩) zs.length c] 24)).alloc (.cells #[.int .i64 st, .int .i64 r0, .int .i64 r1, .int .i64 r2, .slice B sp.length d] 75)) := below_alloc (Below.refl _ _) _
  have hrc := Race.cellsNew w ⟨cl, cd, some ⟨b, off, none⟩, zs.length, c, zs⟩ 24
  have hec := Ent.cellsNew (w.alloc (.cells #[.int .i64 cl, .bool cd, .slice (some ⟨b, off, none⟩) zs.length c] 24)) ⟨st, ⟨⟨r0, r1, r2, sp⟩, B, sp.length, d⟩⟩ 75
  have hcr := Ent.cardRange (Ent.rangeNew (w.alloc (.cells #[.int .i64 cl, .bool cd, .slice (some ⟨b, off, none⟩) zs.length c] 24)) ⟨st, ⟨⟨r0, r1, r2, sp⟩, B, sp.length, d⟩⟩ 75)
  have hsz : (w.alloc (.cells #[.int .i64 cl, .bool cd, .slice (some ⟨b, off, none⟩) zs.length c] 24)).heap.size = w.heap.size + 1 := by simp
  rw [hsz] at hec hcr
  have hrk : ∀ s : After ((w.alloc (.cells #[.int .i64 cl, .bool cd, .slice (some ⟨b, off, none⟩) zs.length c] 24)).alloc (.cells #[.int .i64 st, .int .i64 r0, .int .i64 r1, .int .i64 r2, .slice B sp.length d] 75)), s.w'.cell? ⟨w.heap.size, 0, none⟩ = some (.int .i64 cl) ∧ s.w'.cell? ⟨w.heap.size, 1, none⟩ = some (.bool cd) := fun s => by
    have := hrc ⟨s.w', step_ hb1 (Nat.le_refl _) s.hb⟩
    exact ⟨this.1, this.2.1⟩
  simp only [Nat.zero_add] at hec hcr
  have hrk0 := hrk ⟨_, Below.refl _ _⟩
  have hec0 := hec ⟨_, Below.refl _ _⟩
  simp only at hrk0 hec0
  have HRK := Lib.hid hrk
  have HEC := Lib.hid hec
  have HW := Lib.hid hW1
  have HIN := Lib.hid (hin.below hW1)
  have hrcw := (hrc ⟨_, Below.refl _ _⟩).2.2
  simp only at hrcw
  clear hrk hec hrc hW0 hW1 hb1 hsz hin hr
  obtain ⟨z0, hz0⟩ : ∃ r, zeroCd ⟨r0, r1, r2, sp⟩ = r := ⟨_, rfl⟩
  obtain ⟨q, hq⟩ : ∃ r, cardOk ⟨r0, r1, r2, sp⟩ = r := ⟨_, rfl⟩
  obtain ⟨an, han⟩ : ∃ r, (sp.any fun p => decide (cl < p.time)) = r := ⟨_, rfl⟩
  have HZ := Lib.hid (isZeroCard_any ⟨⟨r0, r1, r2, sp⟩, B, sp.length, d⟩ _ HIN.out)
  have HQ := Lib.hid (IsCard_any ⟨⟨r0, r1, r2, sp⟩, B, sp.length, d⟩ _ HIN.out)
  have HCF := Lib.hid (fun W (hW : Below _ _ W) => containsFunc_96 (.pointer (some ⟨w.heap.size, 0, none⟩)) (fun p => decide (cl < p.time)) sp (.slice B sp.length d) W (HIN.out.below hW) (fun s k hk => lateP_any _ _ cl _ (HRK.out ⟨s.w', step_ hW (Nat.le_refl _) s.hb⟩).1))
  simp only at HZ HQ
  rw [hz0] at HZ
  rw [hq] at HQ
  rw [han] at HCF
  have HR := Lib.hid (show runningOk cl i ⟨st, ⟨r0, r1, r2, sp⟩⟩ = (q && r0 == (i : Int) + 1 && (decide (r1 ≤ cl) && decide (r2 ≤ cl) && !an) && ((r2 != -1) == (st == 2))) by simp only [runningOk, hq, latest_any, han])
  have HE := Lib.hid (show entOk cl cd i (Ent.k ⟨st, ⟨⟨r0, r1, r2, sp⟩, B, sp.length, d⟩⟩) = if st = 0 then z0 && !cd else if st = 4 then z0 && cd else if st = 1 then !cd && runningOk cl i ⟨st, ⟨r0, r1, r2, sp⟩⟩ else if st = 2 ∨ st = 3 then runningOk cl i ⟨st, ⟨r0, r1, r2, sp⟩⟩ else false by rw [← hz0]; rfl)
  clear hz0 hq han
  rw [HE.out, HR.out]
  by_cases h0 : st = 0
  · subst h0
    go_enter Try.func67, Try.ntmps67
    go_wp2_with (first
      | ((with_reducible refine at_load_ 75 ?_); refine Ent.loadImpl rfl _ rfl b (off + i * 5) rfl _ hr0 ?_)
      | ((with_reducible refine at_load_ 73 ?_); refine Card.loadImpl rfl _ rfl (w.heap.size + 1) 1 rfl ⟨⟨r0, r1, r2, sp⟩, B, sp.length, d⟩ hcr ?_)
      | (go_at_call 93; refine HZ.out.mono ?_; rintro e w3 ⟨rfl, hb⟩; have hrk3 := HRK.out ⟨w3, hb⟩; simp only at hrk3))
    all_goals
      go_ret
      exact ⟨ret_bool (by simp <;> grind), step_ HW.out (Nat.le_refl _) hb⟩
  have e0 : (st == 0) = false := by simpa using h0
  by_cases h4 : st = 4
  · subst h4
    go_enter Try.func67, Try.ntmps67
    go_wp2_with (first
      | ((with_reducible refine at_load_ 75 ?_); refine Ent.loadImpl rfl _ rfl b (off + i * 5) rfl _ hr0 ?_)
      | ((with_reducible refine at_load_ 73 ?_); refine Card.loadImpl rfl _ rfl (w.heap.size + 1) 1 rfl ⟨⟨r0, r1, r2, sp⟩, B, sp.length, d⟩ hcr ?_)
      | (go_at_call 93; refine HZ.out.mono ?_; rintro e w3 ⟨rfl, hb⟩; have hrk3 := HRK.out ⟨w3, hb⟩; simp only at hrk3))
    all_goals
      go_ret
      exact ⟨ret_bool (by simp <;> grind), step_ HW.out (Nat.le_refl _) hb⟩
  have e4 : (st == 4) = false := by simpa using h4
  by_cases h123 : st = 1 ∨ st = 2 ∨ st = 3
  · rw [if_neg h0, if_neg h4]
    clear h0 h4 HE HR
    rcases h123 with rfl | rfl | rfl
    · cases cd
      all_goals
        go_enter Try.func67, Try.ntmps67
        go_wp2_with (first
          | ((with_reducible refine at_load_ 75 ?_); refine Ent.loadImpl rfl _ rfl b (off + i * 5) rfl _ hr0 ?_)
          | ((with_reducible refine at_load_ 73 ?_); refine Card.loadImpl rfl _ rfl (w.heap.size + 1) 1 rfl ⟨⟨r0, r1, r2, sp⟩, B, sp.length, d⟩ hcr ?_)
          | (go_at_call 94; refine HQ.out.mono ?_; rintro e w3 ⟨rfl, hb⟩; have hrk3 := HRK.out ⟨w3, hb⟩; have hec3 := HEC.out ⟨w3, hb⟩; simp only at hrk3 hec3)
          | (go_at_call 95; refine (HCF.out _ hb).mono ?_; rintro e w4 ⟨rfl, hb4⟩))
        all_goals
          go_ret
          first
            | exact ⟨ret_bool (by simp <;> grind), step_ (step_ HW.out (Nat.le_refl _) hb) (Nat.le_refl _) hb4⟩
            | exact ⟨ret_bool (by simp <;> grind), step_ HW.out (Nat.le_refl _) hb⟩
            | exact ⟨ret_bool (by simp <;> grind), HW.out⟩
    all_goals
      go_enter Try.func67, Try.ntmps67
      go_wp2_with (first
        | ((with_reducible refine at_load_ 75 ?_); refine Ent.loadImpl rfl _ rfl b (off + i * 5) rfl _ hr0 ?_)
        | ((with_reducible refine at_load_ 73 ?_); refine Card.loadImpl rfl _ rfl (w.heap.size + 1) 1 rfl ⟨⟨r0, r1, r2, sp⟩, B, sp.length, d⟩ hcr ?_)
        | (go_at_call 94; refine HQ.out.mono ?_; rintro e w3 ⟨rfl, hb⟩; have hrk3 := HRK.out ⟨w3, hb⟩; have hec3 := HEC.out ⟨w3, hb⟩; simp only at hrk3 hec3)
        | (go_at_call 95; refine (HCF.out _ hb).mono ?_; rintro e w4 ⟨rfl, hb4⟩))
      all_goals
        go_ret
        first
          | exact ⟨ret_bool (by simp <;> grind), step_ (step_ HW.out (Nat.le_refl _) hb) (Nat.le_refl _) hb4⟩
          | exact ⟨ret_bool (by simp <;> grind), step_ HW.out (Nat.le_refl _) hb⟩
  · have n1 : ¬ st = 1 := fun h => h123 (.inl h)
    have n2 : ¬ st = 2 := fun h => h123 (.inr (.inl h))
    have n3 : ¬ st = 3 := fun h => h123 (.inr (.inr h))
    have e1 : (st == 1) = false := by simpa using n1
    have e2 : (st == 2) = false := by simpa using n2
    have e3 : (st == 3) = false := by simpa using n3
    rw [if_neg h0, if_neg h4, if_neg n1, if_neg (by omega)]
    clear h0 h4 n1 n2 n3 h123
    go_enter Try.func67, Try.ntmps67
    go_wp2_with ((with_reducible refine at_load_ 75 ?_); refine Ent.loadImpl rfl _ rfl b (off + i * 5) rfl _ hr0 ?_)
    go_ret
    exact ⟨rfl, HW.out⟩
end Go.Proofs.Ytfmgnbkneccekaa
