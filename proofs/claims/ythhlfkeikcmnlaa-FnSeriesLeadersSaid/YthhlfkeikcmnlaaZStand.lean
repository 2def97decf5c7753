/- The walks of how two runners stand. -/
import Derived.Test.YthhlfkeikcmnlaaZRun
namespace Go.Proofs.Ythhlfkeikcmnlaa
open Go Go.RowKit

theorem cmpL_cons {l1 l2 : List Int} {k : Nat} (h1 : k < l1.length) (h2 : k < l2.length) : cmpL (l1.drop k) (l2.drop k) = if cmpI l1[k] l2[k] = 0 then cmpL (l1.drop (k + 1)) (l2.drop (k + 1)) else cmpI l1[k] l2[k] := by
  rw [List.drop_eq_getElem_cons h1, List.drop_eq_getElem_cons h2]
  rfl
theorem cmpL_long {l1 l2 : List Int} {k : Nat} (h1 : k < l1.length) (h2 : l2.length ≤ k) : cmpL (l1.drop k) (l2.drop k) = 1 := by
  rw [List.drop_eq_getElem_cons h1, List.drop_eq_nil_of_le h2]
  rfl
theorem cmpL_short {l1 l2 : List Int} {k : Nat} (h1 : l1.length ≤ k) (h2 : k < l2.length) : cmpL (l1.drop k) (l2.drop k) = -1 := by
  rw [List.drop_eq_getElem_cons h2, List.drop_eq_nil_of_le h1]
  rfl
theorem cmpL_end {l1 l2 : List Int} {k : Nat} (h1 : l1.length ≤ k) (h2 : l2.length ≤ k) : cmpL (l1.drop k) (l2.drop k) = 0 := by
  rw [List.drop_eq_nil_of_le h1, List.drop_eq_nil_of_le h2]
  rfl
set_option maxHeartbeats 1000000 in
theorem standPts_any (p q : Score) (w : World) :
    Calls Try.prog 97 #[p.val, q.val] w fun e w' => e = .returned (.int .i64 (cmpI p.points q.points)) ∧ Below w.heap.size w w' := by
  obtain ⟨a, b, c⟩ := p
  obtain ⟨a', b', c'⟩ := q
  show Calls Try.prog 97 #[.agg #[.int .i64 a, .int .i64 b, .int .i64 c], .agg #[.int .i64 a', .int .i64 b', .int .i64 c']] w _
  go_enter Try.func97, Try.ntmps97
  go_wp2_with (go_at_call 87; refine (compare_any _ _ _).mono ?_; rintro e w' ⟨rfl, rfl⟩)
  go_ret
  exact ⟨rfl, by (repeat (first | exact Below.refl _ _ | assumption | refine Below.drew ?_ | refine Below.alloc ?_ (by first | exact Nat.le_refl _ | (simp; done) | (simp; omega)) _))⟩
theorem Score.loadNew {w : World} {b : Nat} {x : Score} (h : w.rangeAt b 0 x.lst) : w.rangeAt b 0 x.lst := h
set_option maxHeartbeats 2000000 in
theorem compareFunc_any (ps qs : List Score) (v u : Value) (w : World) (h : Sl (Flat Score.lst) 3 w v ps) (h' : Sl (Flat Score.lst) 3 w u qs) :
    Calls Try.prog 96 #[v, u, .func (.func 97) #[] #[]] w fun e w' => e = .returned (.int .i64 (cmpL (ps.map Score.points) (qs.map Score.points))) ∧ Below w.heap.size w w' := by
  obtain ⟨A, c, rfl, hc, hm, hk⟩ := h.open_
  obtain ⟨A', c', rfl, hc', hm', hk'⟩ := h'.open_
  obtain ⟨res, hres⟩ : ∃ res, res = cmpL (ps.map Score.points) (qs.map Score.points) := ⟨_, rfl⟩
  rw [← hres]
  have HRES := Lib.hid hres
  clear h h' hres
  go_enter Try.func96, Try.ntmps96
  go_wp2
  go_loopw [13] (fun i wr => ∃ k : Nat, k ≤ ps.length ∧ k ≤ qs.length ∧ i = .int .i64 k ∧ Hid (res = cmpL ((ps.map Score.points).drop k) ((qs.map Score.points).drop k)) ∧ Below w.heap.size w wr)
    (fun i _ => ps.length - (intOf i).toNat)
  case atStart => exact ⟨0, Nat.zero_le _, Nat.zero_le _, rfl, HRES.out, Below.refl _ _⟩
  case round =>
    obtain ⟨k, hkl, hkl', rfl, HS, hb⟩ := hrel
    by_cases hlt : k < ps.length
    · obtain ⟨b, off, rfl, hat⟩ := flat_at hk (by omega)
      have hr := rangeAt_below (hat k hlt) hb
      by_cases hlt' : k < qs.length
      · obtain ⟨b', off', rfl, hat'⟩ := flat_at hk' (by omega)
        have HC := Lib.hid (@cmpL_cons (ps.map Score.points) (qs.map Score.points) k (by simpa using hlt) (by simpa using hlt'))
        simp only [List.getElem_map] at HC
        have hr' := rangeAt_below (hat' k hlt') hb
        obtain ⟨x, hx⟩ : ∃ x, x = ps[k] := ⟨_, rfl⟩
        obtain ⟨y, hy⟩ : ∃ y, y = qs[k] := ⟨_, rfl⟩
        rw [← hx] at hr HC
        rw [← hy] at hr' HC
        have hr2 := rangeAt_below hr' (below_alloc (Below.refl _ _) (.cells #[.int .i64 x.runner, .int .i64 x.race, .int .i64 x.points] 33))
        have hn1 := rangeAt_below (Score.rangeNew wr x 33) (below_alloc (Below.refl _ _) (.cells #[.int .i64 y.runner, .int .i64 y.race, .int .i64 y.points] 33))
        have hn2 := Score.rangeNew (wr.alloc (.cells #[.int .i64 x.runner, .int .i64 x.race, .int .i64 x.points] 33)) y 33
        have hsz : (wr.alloc (.cells #[.int .i64 x.runner, .int .i64 x.race, .int .i64 x.points] 33)).heap.size = wr.heap.size + 1 := by simp
        rw [hsz] at hn2
        have HB := Lib.hid (show Below w.heap.size w ((wr.alloc (.cells #[.int .i64 x.runner, .int .i64 x.race, .int .i64 x.points] 33)).alloc (.cells #[.int .i64 y.runner, .int .i64 y.race, .int .i64 y.points] 33)) from below_alloc (below_alloc hb _) _)
        clear hk hk' hat hat' hx hy hb hsz
        by_cases he : cmpI x.points y.points = 0
        · have HN := Lib.hid (show res = cmpL ((ps.map Score.points).drop (k + 1)) ((qs.map Score.points).drop (k + 1)) by rw [HS.out, HC.out, if_pos he])
          have HE := Lib.hid he
          clear he
          go_wp2_with (first
            | ((with_reducible refine at_load_ 33 ?_); refine Score.loadImpl rfl _ rfl b (off + k * 3) rfl x hr ?_)
            | ((with_reducible refine at_load_ 33 ?_); refine Score.loadImpl rfl _ rfl b' (off' + k * 3) rfl y hr2 ?_)
            | ((with_reducible refine at_load_ 33 ?_); refine Score.loadImpl rfl _ rfl wr.heap.size 0 rfl x hn1 ?_)
            | ((with_reducible refine at_load_ 33 ?_); refine Score.loadImpl rfl _ rfl (wr.heap.size + 1) 0 rfl y hn2 ?_)
            | (go_at_call 97; refine (standPts_any x y _).mono ?_; rintro e w2 ⟨rfl, hb2⟩; rw [HE.out]))
          go_roundw
          case rel => exact ⟨k + 1, by omega, by omega, by go_num, HN.out, step_ HB.out (Nat.le_refl _) hb2⟩
          case measure => simp [intOf]; omega
        · have HN := Lib.hid (show cmpI x.points y.points = res by rw [HS.out, HC.out, if_neg he])
          obtain ⟨t, ht⟩ : ∃ t, t = cmpI x.points y.points := ⟨_, rfl⟩
          rw [← ht] at he HN
          have HT := Lib.hid ht
          have he' : (t != 0) = true := by simpa using he
          clear he ht
          go_wp2_with (first
            | ((with_reducible refine at_load_ 33 ?_); refine Score.loadImpl rfl _ rfl b (off + k * 3) rfl x hr ?_)
            | ((with_reducible refine at_load_ 33 ?_); refine Score.loadImpl rfl _ rfl b' (off' + k * 3) rfl y hr2 ?_)
            | ((with_reducible refine at_load_ 33 ?_); refine Score.loadImpl rfl _ rfl wr.heap.size 0 rfl x hn1 ?_)
            | ((with_reducible refine at_load_ 33 ?_); refine Score.loadImpl rfl _ rfl (wr.heap.size + 1) 0 rfl y hn2 ?_)
            | (go_at_call 97; refine (standPts_any x y _).mono ?_; rintro e w2 ⟨rfl, hb2⟩; rw [← HT.out]))
          go_ret
          exact ⟨ret_int HN.out, step_ HB.out (Nat.le_refl _) hb2⟩
      · have HC := Lib.hid (@cmpL_long (ps.map Score.points) (qs.map Score.points) k (by simpa using hlt) (by simp; omega))
        clear hk hk' hat
        go_wp2_with ((with_reducible refine at_load_ 33 ?_); refine Score.loadImpl rfl _ rfl b (off + k * 3) rfl ps[k] hr ?_)
        go_ret
        exact ⟨ret_int (by rw [HS.out, HC.out]), below_alloc hb _⟩
    · obtain rfl : k = ps.length := by omega
      by_cases hlt' : ps.length < qs.length
      · have HC := Lib.hid (@cmpL_short (ps.map Score.points) (qs.map Score.points) ps.length (by simp) (by simpa using hlt'))
        go_wp2
        go_ret
        exact ⟨ret_int (by rw [HS.out, HC.out]), hb⟩
      · have HC := Lib.hid (@cmpL_end (ps.map Score.points) (qs.map Score.points) ps.length (by simp) (by simp; omega))
        go_wp2
        go_ret
        exact ⟨ret_int (by rw [HS.out, HC.out]), hb⟩

set_option maxHeartbeats 2000000 in
theorem compareStanding_any (xs : List Score) (m a b : Int) (v : Value) (w : World) (h : Sl (Flat Score.lst) 3 w v xs) (hn : xs.length ≤ 1048577) (ha : (ownS xs a).length ≤ 20) (hb : (ownS xs b).length ≤ 20) (hm0 : 0 ≤ m) (hm1 : m ≤ 9223372036854775807) (hs : Small xs) :
    Calls Try.prog 71 #[v, .int .i64 m, .int .i64 a, .int .i64 b] w fun e w' => e = .returned (.int .i64 (cmpStand xs m a b)) ∧ Below w.heap.size w w' := by
  have HR := Lib.hid (show orI (cmpI (totS m xs b) (totS m xs a)) (cmpL ((ofS xs b).map Score.points) ((ofS xs a).map Score.points)) = cmpStand xs m a b from rfl)
  go_enter Try.func71, Try.ntmps71
  go_wp2_with fail
  refine (totalOf_any xs m b _ _ h hn hb hm0 hm1 hs).mono ?_
  rintro e w1 ⟨rfl, hb1⟩
  go_wp2_with fail
  refine (totalOf_any xs m a _ _ (h.below (Flat.keeps _) hb1) hn ha hm0 hm1 hs).mono ?_
  rintro e w2 ⟨rfl, hb2⟩
  have hB2 := step_ hb1 (Nat.le_refl _) hb2
  go_wp2_with fail
  refine (compare_any _ _ _).mono ?_
  rintro e w' ⟨rfl, rfl⟩
  obtain ⟨t1, ht1⟩ : ∃ t1, t1 = cmpI (totS m xs b) (totS m xs a) := ⟨_, rfl⟩
  rw [← ht1] at HR ⊢
  clear ht1
  go_wp2_with fail
  refine (scoresOf_any xs b _ _ (h.below (Flat.keeps _) hB2) hn hb).mono ?_
  rintro e w3 ⟨o3, rfl, row3, hb3⟩
  have hB3 := step_ hB2 (Nat.le_refl _) hb3
  go_wp2_with fail
  refine (scoresOf_any xs a _ _ (h.below (Flat.keeps _) hB3) hn ha).mono ?_
  rintro e w4 ⟨o4, rfl, row4, hb4⟩
  have hB4 := step_ hB3 (Nat.le_refl _) hb4
  go_wp2_with fail
  refine (compareFunc_any (ofS xs b) (ofS xs a) _ _ _ (Sl.of_flat (row3.below hb4)) (Sl.of_flat row4)).mono ?_
  rintro e w5 ⟨rfl, hb5⟩
  obtain ⟨t2, ht2⟩ : ∃ t2, t2 = cmpL ((ofS xs b).map Score.points) ((ofS xs a).map Score.points) := ⟨_, rfl⟩
  rw [← ht2] at HR ⊢
  have hB5 := step_ hB4 (Nat.le_refl _) hb5
  have hnew := rangeAt_new w5 [.int .i64 t1, .int .i64 t2] 3
  clear ht2 row3 row4 hb1 hb2 hb3 hb4 hb5 hB2 hB3 hB4
  go_wp2_with fail
  refine (or_any t1 t2 w5.heap.size _ (hnew 0 _ rfl) (hnew 1 _ rfl)).mono ?_
  rintro e w' ⟨rfl, rfl⟩
  rw [HR.out]
  go_wp2
  go_ret
  exact ⟨rfl, below_alloc hB5 _⟩

set_option maxHeartbeats 4000000 in
theorem l20Before_any (xs : List Score) (m a b : Int) (v : Value) (w : World) (h : Sl (Flat Score.lst) 3 w v xs) (hn : xs.length ≤ 1048577) (ha : (ownS xs a).length ≤ 20) (hb : (ownS xs b).length ≤ 20) (hm0 : 0 ≤ m) (hm1 : m ≤ 9223372036854775807) (hs : Small xs) :
    Calls Try.prog 69 #[.int .i64 m, v, .int .i64 a, .int .i64 b] w fun e w' => e = .returned (.bool (decide (cmpStand xs m a b < 0))) ∧ Below w.heap.size w w' := by
  have HR := Lib.hid (show cmpStand xs m a b = orI (cmpI (totS m xs b) (totS m xs a)) (cmpL ((ofS xs b).map Score.points) ((ofS xs a).map Score.points)) from rfl)
  obtain ⟨res, hres⟩ : ∃ res, res = cmpStand xs m a b := ⟨_, rfl⟩
  rw [← hres] at HR ⊢
  clear hres
  go_enter Try.func69, Try.ntmps69
  go_wp2_with fail
  refine (l20Total_any xs m a _ _ h hn ha hm0 hm1 hs).mono ?_
  rintro e w1 ⟨rfl, hb1⟩
  go_wp2_with fail
  refine (l20Total_any xs m b _ _ (h.below (Flat.keeps _) hb1) hn hb hm0 hm1 hs).mono ?_
  rintro e w2 ⟨rfl, hb2⟩
  have hB2 := step_ hb1 (Nat.le_refl _) hb2
  obtain ⟨ta, hta⟩ : ∃ ta, ta = totS m xs a := ⟨_, rfl⟩
  obtain ⟨tb, htb⟩ : ∃ tb, tb = totS m xs b := ⟨_, rfl⟩
  rw [← hta, ← htb] at HR ⊢
  clear hta htb hb1 hb2
  by_cases ht : ta = tb
  rotate_left
  · have ht' : (ta != tb) = true := by simpa using ht
    have HD := Lib.hid (show decide (ta > tb) = decide (res < 0) by
      rw [HR.out]; unfold orI cmpI
      by_cases h1 : tb < ta
      · simp [h1]
      · have h2 : ta < tb := by omega
        simp [h1, h2])
    clear ht
    go_wp2
    all_goals
      go_ret
      exact ⟨ret_bool (by have := HD.out; grind), hB2⟩
  subst ht
  have HR2 := Lib.hid (show res = cmpL ((ofS xs b).map Score.points) ((ofS xs a).map Score.points) by rw [HR.out]; simp [orI, cmpI])
  have ht' : (ta != ta) = false := by simp
  go_wp2_with fail
  refine (l20Of_any xs a _ _ (h.below (Flat.keeps _) hB2) hn).mono ?_
  rintro e w3 ⟨o3, rfl, row3, hb3⟩
  have hB3 := step_ hB2 (Nat.le_refl _) hb3
  go_wp2_with fail
  refine (l20Of_any xs b _ _ (h.below (Flat.keeps _) hB3) hn).mono ?_
  rintro e w4 ⟨o4, rfl, row4, hb4⟩
  have hB4 := step_ hB3 (Nat.le_refl _) hb4
  have row3 := row3.below hb4
  obtain ⟨ps, hps⟩ : ∃ ps, ps = ofS xs a := ⟨_, rfl⟩
  obtain ⟨qs, hqs⟩ : ∃ qs, qs = ofS xs b := ⟨_, rfl⟩
  rw [← hps] at row3 HR2
  rw [← hqs] at row4 HR2
  obtain ⟨A3, c3, hk3⟩ : ∃ A c, Hid (Sl (Flat Score.lst) 3 w4 o3 ps) ∧ o3 = .slice A ps.length c ∧ ps.length ≤ c ∧ c ≤ 9223372036854775807 := by
    obtain ⟨A, c, h1, h2, h3⟩ := row3.parts
    exact ⟨A, c, Sl.of_flat row3, by simpa using h1, by simpa using h2, h3⟩
  obtain ⟨A4, c4, hk4⟩ : ∃ A c, Hid (Sl (Flat Score.lst) 3 w4 o4 qs) ∧ o4 = .slice A qs.length c ∧ qs.length ≤ c ∧ c ≤ 9223372036854775807 := by
    obtain ⟨A, c, h1, h2, h3⟩ := row4.parts
    exact ⟨A, c, Sl.of_flat row4, by simpa using h1, by simpa using h2, h3⟩
  obtain ⟨HP, rfl, hc3, hm3⟩ := hk3
  obtain ⟨HQ, rfl, hc4, hm4⟩ := hk4
  have HX := Lib.hid h
  clear h row3 row4 hb3 hb4 hB2 hB3 hps hqs ht' hs
  obtain ⟨w4, rfl⟩ : ∃ w' : World, w' = w4 := ⟨_, rfl⟩
  go_wp2_with fail
  go_loopw [13] (fun i wr => ∃ k : Nat, k ≤ ps.length ∧ k ≤ qs.length ∧ i = .int .i64 k ∧ Hid (res = cmpL ((qs.map Score.points).drop k) ((ps.map Score.points).drop k)) ∧ Below w4.heap.size w4 wr)
    (fun i _ => ps.length - (intOf i).toNat)
  case atStart => exact ⟨0, Nat.zero_le _, Nat.zero_le _, rfl, HR2.out, Below.refl _ _⟩
  case round =>
    obtain ⟨k, hkl, hkl', rfl, HS, hb⟩ := hrel
    by_cases hlt : k < ps.length
    · by_cases hlt' : k < qs.length
      · obtain ⟨_, _, he1, _, _, hk1⟩ := HP.out.open_
        obtain ⟨_, _, he2, _, _, hk2⟩ := HQ.out.open_
        simp only [Value.slice.injEq] at he1 he2
        obtain ⟨rfl, _, rfl⟩ := he1
        obtain ⟨rfl, _, rfl⟩ := he2
        obtain ⟨b1, off1, rfl, hat1⟩ := flat_at hk1 (by omega)
        obtain ⟨b2, off2, rfl, hat2⟩ := flat_at hk2 (by omega)
        have hxc := Score.cellsOld (rangeAt_below (hat1 k hlt) hb)
        have hyc := Score.cellsOld (rangeAt_below (hat2 k hlt') hb)
        have HC := Lib.hid (@cmpL_cons (qs.map Score.points) (ps.map Score.points) k (by simpa using hlt') (by simpa using hlt))
        simp only [List.getElem_map] at HC
        obtain ⟨⟨x1, x2, x⟩, hx⟩ : ∃ x, x = ps[k] := ⟨_, rfl⟩
        obtain ⟨⟨y1, y2, y⟩, hy⟩ : ∃ y, y = qs[k] := ⟨_, rfl⟩
        rw [← hx] at hxc HC
        rw [← hy] at hyc HC
        simp only at hxc hyc HC
        have HB := Lib.hid hb
        clear hk1 hk2 hat1 hat2 hx hy hb
        by_cases he : x = y
        · subst he
          have HN := Lib.hid (show res = cmpL ((qs.map Score.points).drop (k + 1)) ((ps.map Score.points).drop (k + 1)) by rw [HS.out, HC.out, if_pos (by simp [cmpI])])
          go_wp2
          refine region_after (by kernel_rfl) (by kernel_rfl) ?_
          repeat (any_goals (first | go_big_quiet_step (fail)  | quiet_step (fail)))
          refine wpQuiet_nil ?_
          intro s
          go_wp2
          go_roundw
          case rel => exact ⟨k + 1, by omega, by omega, by go_num, HN.out, step_ HB.out (Nat.le_refl _) s.hb⟩
          case measure => simp [intOf]; omega
        · have HN := Lib.hid (show decide (x > y) = decide (res < 0) by
            rw [HS.out, HC.out]; unfold cmpI
            by_cases h1 : y < x
            · simp [h1]
            · have h2 : x < y := by omega
              simp [h1, h2])
          have he' : (x != y) = true := by simpa using he
          clear he
          go_wp2
          refine region_after (by kernel_rfl) (by kernel_rfl) ?_
          repeat (any_goals (first | go_big_quiet_step (fail)  | quiet_step (fail)))
          refine wpQuiet_nil ?_
          intro s
          have hx2 : ∀ s' : After s.w', s'.w'.cell? ⟨b1, off1 + k * 3 + 2, none⟩ = some (.int .i64 x) := fun s' => (hxc ⟨s'.w', step_ s.hb (Nat.le_refl _) s'.hb⟩).2.2
          have hy2 : ∀ s' : After s.w', s'.w'.cell? ⟨b2, off2 + k * 3 + 2, none⟩ = some (.int .i64 y) := fun s' => (hyc ⟨s'.w', step_ s.hb (Nat.le_refl _) s'.hb⟩).2.2
          have HB2 := Lib.hid (step_ HB.out (Nat.le_refl _) s.hb)
          clear hxc hyc
          generalize s.w' = ws at hx2 hy2 HB2 ⊢
          go_wp2
          refine region_after (by kernel_rfl) (by kernel_rfl) ?_
          repeat (any_goals (first | go_big_quiet_step (fail) | quiet_step (fail) | (refine wpQuiet_step (fun K hK => ?_); go_simp; split <;> (refine hK _ ?_; clear hK K))))
          all_goals (refine wpQuiet_nil ?_; intro s2)
          all_goals
            go_wp2
            go_ret
            exact ⟨ret_bool (by have := HN.out; grind), step_ (step_ hB4 (Nat.le_refl _) HB2.out) (Nat.le_refl _) s2.hb⟩
      · have HC := Lib.hid (@cmpL_short (qs.map Score.points) (ps.map Score.points) k (by simp; omega) (by simpa using hlt))
        have HD := Lib.hid (show decide (res < 0) = true by rw [HS.out, HC.out]; rfl)
        have hgt : qs.length < ps.length := by omega
        go_wp2
        go_ret
        exact ⟨ret_bool HD.out.symm, step_ hB4 (Nat.le_refl _) hb⟩
    · obtain rfl : k = ps.length := by omega
      have HC := Lib.hid (show 0 ≤ res by
        rw [HS.out]
        by_cases h1 : ps.length < qs.length
        · rw [cmpL_long (by simpa using h1) (by simp)]; omega
        · rw [cmpL_end (by simp; omega) (by simp)]; omega)
      have HD := Lib.hid (show decide (res < 0) = false by have := HC.out; simp; omega)
      have hgt : ¬ qs.length < ps.length := by omega
      go_wp2
      go_ret
      exact ⟨ret_bool HD.out.symm, step_ hB4 (Nat.le_refl _) hb⟩
end Go.Proofs.Ythhlfkeikcmnlaa
