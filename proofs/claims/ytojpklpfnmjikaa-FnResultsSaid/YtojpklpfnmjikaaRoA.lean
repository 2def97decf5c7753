/- How two runs compare: the walks. No condition. -/
import Derived.Test.YtojpklpfnmjikaaRoQ
import Derived.Test.YtojpklpfnmjikaaReC
namespace Go.Proofs.Ytojpklpfnmjikaa
open Go Go.RowKit

set_option maxRecDepth 100000 in
set_option maxHeartbeats 4000000 in
theorem cmpRuns_any (p q : Run) (cs : List Int) (A : Option Addr) (n c : Nat) (limit : Int) (b0 b1 : Nat) (w : World) (h0 : w.cell? ⟨b0, 0, none⟩ = some (.slice A n c)) (h1 : w.cell? ⟨b1, 0, none⟩ = some (.int .i64 limit)) (hs : Sl (Flat ints) 1 w (.slice A n c) cs) (hn : cs.length ≤ 1048577)
    (hp : p.card.In w) (hq : q.card.In w) (okp : runOk p.k = true) (okq : runOk q.k = true) :
    Calls Try.prog 80 #[p.val, q.val, .pointer (some ⟨b0, 0, none⟩), .pointer (some ⟨b1, 0, none⟩)] w fun e w' => e = .returned (.int .i64 (cmpR cs limit p.k q.k)) ∧ Below w.heap.size w w' := by
  have hW : Below w.heap.size w ((w.alloc (.cells #[.int .i64 p.runner, .bool p.started, .bool p.out, .int .i64 p.card.k.number, .int .i64 p.card.k.start, .int .i64 p.card.k.finish, .slice p.card.a p.card.n p.card.c] 53)).alloc (.cells #[.int .i64 q.runner, .bool q.started, .bool q.out, .int .i64 q.card.k.number, .int .i64 q.card.k.start, .int .i64 q.card.k.finish, .slice q.card.a q.card.n q.card.c] 53)) := below_alloc (below_alloc (Below.refl _ _) _) _
  have hlt0 := block_lt_of_cell h0
  have hlt1 := block_lt_of_cell h1
  simp only at hlt0 hlt1
  have hsz : (w.alloc (.cells #[.int .i64 p.runner, .bool p.started, .bool p.out, .int .i64 p.card.k.number, .int .i64 p.card.k.start, .int .i64 p.card.k.finish, .slice p.card.a p.card.n p.card.c] 53)).heap.size = w.heap.size + 1 := by simp
  have hr1 := rangeAt_below (Run.rangeNew w p 53) (below_alloc (Below.refl _ _) (.cells #[.int .i64 q.runner, .bool q.started, .bool q.out, .int .i64 q.card.k.number, .int .i64 q.card.k.start, .int .i64 q.card.k.finish, .slice q.card.a q.card.n q.card.c] 53))
  have hr2 := Run.rangeNew (w.alloc (.cells #[.int .i64 p.runner, .bool p.started, .bool p.out, .int .i64 p.card.k.number, .int .i64 p.card.k.start, .int .i64 p.card.k.finish, .slice p.card.a p.card.n p.card.c] 53)) q 53
  rw [hsz] at hr2
  have HST := Lib.hid (fun (r : Run) (hr : r.card.In w) (ok : runOk r.k = true) (s : After ((w.alloc (.cells #[.int .i64 p.runner, .bool p.started, .bool p.out, .int .i64 p.card.k.number, .int .i64 p.card.k.start, .int .i64 p.card.k.finish, .slice p.card.a p.card.n p.card.c] 53)).alloc (.cells #[.int .i64 q.runner, .bool q.started, .bool q.out, .int .i64 q.card.k.number, .int .i64 q.card.k.start, .int .i64 q.card.k.finish, .slice q.card.a q.card.n q.card.c] 53))) => statusOf_any r cs (.slice A n c) limit s.w' (hr.below (step_ hW (Nat.le_refl _) s.hb)) (hs.below (Flat.keeps _) (step_ hW (Nat.le_refl _) s.hb)) hn ok)
  have HP := Lib.hid (HST.out p hp okp)
  have HQ := Lib.hid (HST.out q hq okq)
  have HTP := Lib.hid (runTime_ok p okp)
  have HTQ := Lib.hid (runTime_ok q okq)
  have HV := Lib.hid (show cmpR cs limit p.k q.k = if stV p.k cs limit = 0 ∧ stV q.k cs limit = 0 then cmpI (rtime p.k) (rtime q.k) else cmpI (stV p.k cs limit) (stV q.k cs limit) from rfl)
  obtain ⟨res, hres⟩ : ∃ res, cmpR cs limit p.k q.k = res := ⟨_, rfl⟩
  rw [hres] at HV ⊢
  obtain ⟨s1, hs1⟩ : ∃ s1, stV p.k cs limit = s1 := ⟨_, rfl⟩
  obtain ⟨s2, hs2⟩ : ∃ s2, stV q.k cs limit = s2 := ⟨_, rfl⟩
  rw [hs1] at HP HV
  rw [hs2] at HQ HV
  obtain ⟨d1, hd1⟩ : ∃ d1, rtime p.k = d1 := ⟨_, rfl⟩
  obtain ⟨d2, hd2⟩ : ∃ d2, rtime q.k = d2 := ⟨_, rfl⟩
  rw [hd1] at HTP HV
  rw [hd2] at HTQ HV
  have HW := Lib.hid hW
  clear hres hs1 hs2 hd1 hd2 HST hp hq okp okq hs hsz
  obtain ⟨r0, r1, r2, ⟨⟨x0, x1, x2, xs⟩, B, m, f⟩⟩ := p
  obtain ⟨y0, y1, y2, ⟨⟨z0, z1, z2, zs⟩, D, l, g⟩⟩ := q
  simp only [Run.val, Run.lst] at HP HQ HTP HTQ
  simp only at hr1 hr2 HW
  show Calls Try.prog 80 #[.agg #[.int .i64 r0, .bool r1, .bool r2, .int .i64 x0, .int .i64 x1, .int .i64 x2, .slice B m f], .agg #[.int .i64 y0, .bool y1, .bool y2, .int .i64 z0, .int .i64 z1, .int .i64 z2, .slice D l g], .pointer (some ⟨b0, 0, none⟩), .pointer (some ⟨b1, 0, none⟩)] w _
  have hc0 : ∀ s : After ((w.alloc (.cells #[.int .i64 r0, .bool r1, .bool r2, .int .i64 x0, .int .i64 x1, .int .i64 x2, .slice B m f] 53)).alloc (.cells #[.int .i64 y0, .bool y1, .bool y2, .int .i64 z0, .int .i64 z1, .int .i64 z2, .slice D l g] 53)), s.w'.cell? ⟨b0, 0, none⟩ = some (.slice A n c) := fun s => After.keep h0 ⟨s.w', step_ HW.out (Nat.le_refl _) s.hb⟩
  have hc1 : ∀ s : After ((w.alloc (.cells #[.int .i64 r0, .bool r1, .bool r2, .int .i64 x0, .int .i64 x1, .int .i64 x2, .slice B m f] 53)).alloc (.cells #[.int .i64 y0, .bool y1, .bool y2, .int .i64 z0, .int .i64 z1, .int .i64 z2, .slice D l g] 53)), s.w'.cell? ⟨b1, 0, none⟩ = some (.int .i64 limit) := fun s => After.keep h1 ⟨s.w', step_ HW.out (Nat.le_refl _) s.hb⟩
  clear h0 h1
  by_cases hz : s1 = 0 ∧ s2 = 0
  · obtain ⟨rfl, rfl⟩ := hz
    rw [if_pos ⟨rfl, rfl⟩] at HV
    go_enter Try.func80, Try.ntmps80
    go_wp2_with fail
    refine region_after (by kernel_rfl) (by kernel_rfl) ?_
    repeat (any_goals (first | go_big_quiet_step ((first | (go_at_call 65; first | (with_reducible exact Calls.after (v := .int .i64 0) _ (HP.out _)) | (with_reducible exact Calls.after (v := .int .i64 0) _ (HQ.out _))))) | (refine Run.qloadImpl rfl _ rfl w.heap.size 0 rfl ⟨r0, r1, r2, ⟨⟨x0, x1, x2, xs⟩, B, m, f⟩⟩ hr1 ?_) | (refine Run.qloadImpl rfl _ rfl (w.heap.size + 1) 0 rfl ⟨y0, y1, y2, ⟨⟨z0, z1, z2, zs⟩, D, l, g⟩⟩ hr2 ?_) | quiet_step ((first | (go_at_call 65; first | (with_reducible exact Calls.after (v := .int .i64 0) _ (HP.out _)) | (with_reducible exact Calls.after (v := .int .i64 0) _ (HQ.out _)))))))
    refine wpQuiet_nil ?_
    intro s
    have hr1' := rangeAt_below hr1 s.hb
    have hr2' := rangeAt_below hr2 s.hb
    have HB := Lib.hid (step_ HW.out (Nat.le_refl _) s.hb)
    clear hc0 hc1 hr1 hr2 HP HQ
    generalize s.w' = ws at hr1' hr2' HB ⊢
    go_wp2
    refine region_after (by kernel_rfl) (by kernel_rfl) ?_
    repeat (any_goals (first | go_big_quiet_step ((first | (go_at_call 68; first | (with_reducible exact Calls.after (v := .int .i64 d1) _ (HTP.out _)) | (with_reducible exact Calls.after (v := .int .i64 d2) _ (HTQ.out _))) | (go_at_call 81; exact Calls.after_same (v := .int .i64 (cmpI d1 d2)) _ ((compare_any _ _ _).mono (fun e w' h => h))))) | (refine Run.qloadImpl rfl _ rfl w.heap.size 0 rfl ⟨r0, r1, r2, ⟨⟨x0, x1, x2, xs⟩, B, m, f⟩⟩ hr1' ?_) | (refine Run.qloadImpl rfl _ rfl (w.heap.size + 1) 0 rfl ⟨y0, y1, y2, ⟨⟨z0, z1, z2, zs⟩, D, l, g⟩⟩ hr2' ?_) | quiet_step ((first | (go_at_call 68; first | (with_reducible exact Calls.after (v := .int .i64 d1) _ (HTP.out _)) | (with_reducible exact Calls.after (v := .int .i64 d2) _ (HTQ.out _))) | (go_at_call 81; exact Calls.after_same (v := .int .i64 (cmpI d1 d2)) _ ((compare_any _ _ _).mono (fun e w' h => h)))))))
    refine wpQuiet_nil ?_
    intro s
    go_wp2
    go_ret
    exact ⟨ret_int HV.out.symm, step_ HB.out (Nat.le_refl _) s.hb⟩
  · rw [if_neg hz] at HV
    have hz2 : ((s1 == 0) && (s2 == 0)) = false := by
      rw [Bool.and_eq_false_iff]
      simp only [beq_eq_false_iff_ne, ne_eq]
      omega
    by_cases hz1 : s1 = 0
    · have hz3 : (s2 == 0) = false := by simp; omega
      have hz4 : (s1 == 0) = true := by simpa using hz1
      clear hz hz2 hz1
      go_enter Try.func80, Try.ntmps80
      go_wp2_with fail
      refine region_after (by kernel_rfl) (by kernel_rfl) ?_
      repeat (any_goals (first | go_big_quiet_step ((first | (go_at_call 65; first | (with_reducible exact Calls.after (v := .int .i64 s1) _ (HP.out _)) | (with_reducible exact Calls.after (v := .int .i64 s2) _ (HQ.out _))))) | (refine Run.qloadImpl rfl _ rfl w.heap.size 0 rfl ⟨r0, r1, r2, ⟨⟨x0, x1, x2, xs⟩, B, m, f⟩⟩ hr1 ?_) | (refine Run.qloadImpl rfl _ rfl (w.heap.size + 1) 0 rfl ⟨y0, y1, y2, ⟨⟨z0, z1, z2, zs⟩, D, l, g⟩⟩ hr2 ?_) | quiet_step ((first | (go_at_call 65; first | (with_reducible exact Calls.after (v := .int .i64 s1) _ (HP.out _)) | (with_reducible exact Calls.after (v := .int .i64 s2) _ (HQ.out _)))))))
      refine wpQuiet_nil ?_
      intro s
      go_wp2_with fail
      refine (compare_any _ _ _).mono ?_
      rintro e w' ⟨rfl, rfl⟩
      go_wp2
      go_ret
      exact ⟨ret_int HV.out.symm, step_ HW.out (Nat.le_refl _) s.hb⟩
    · have hz4 : (s1 == 0) = false := by simpa using hz1
      clear hz hz2 hz1
      go_enter Try.func80, Try.ntmps80
      go_wp2_with fail
      refine region_after (by kernel_rfl) (by kernel_rfl) ?_
      repeat (any_goals (first | go_big_quiet_step ((first | (go_at_call 65; first | (with_reducible exact Calls.after (v := .int .i64 s1) _ (HP.out _)) | (with_reducible exact Calls.after (v := .int .i64 s2) _ (HQ.out _))))) | (refine Run.qloadImpl rfl _ rfl w.heap.size 0 rfl ⟨r0, r1, r2, ⟨⟨x0, x1, x2, xs⟩, B, m, f⟩⟩ hr1 ?_) | (refine Run.qloadImpl rfl _ rfl (w.heap.size + 1) 0 rfl ⟨y0, y1, y2, ⟨⟨z0, z1, z2, zs⟩, D, l, g⟩⟩ hr2 ?_) | quiet_step ((first | (go_at_call 65; first | (with_reducible exact Calls.after (v := .int .i64 s1) _ (HP.out _)) | (with_reducible exact Calls.after (v := .int .i64 s2) _ (HQ.out _)))))))
      refine wpQuiet_nil ?_
      intro s
      go_wp2_with fail
      refine (compare_any _ _ _).mono ?_
      rintro e w' ⟨rfl, rfl⟩
      go_wp2
      go_ret
      exact ⟨ret_int HV.out.symm, step_ HW.out (Nat.le_refl _) s.hb⟩

set_option maxRecDepth 100000 in
set_option maxHeartbeats 4000000 in
theorem l15Before_any (p q : Run) (cs : List Int) (v : Value) (limit : Int) (w : World) (hs : Sl (Flat ints) 1 w v cs) (hn : cs.length ≤ 1048577) (hp : p.card.In w) (hq : q.card.In w) (okp : runOk p.k = true) (okq : runOk q.k = true) :
    Calls Try.prog 77 #[p.val, q.val, v, .int .i64 limit] w fun e w' => e = .returned (.bool (befR cs limit p.k q.k)) ∧ Below w.heap.size w w' := by
  have hW : Below w.heap.size w ((w.alloc (.cells #[.int .i64 p.runner, .bool p.started, .bool p.out, .int .i64 p.card.k.number, .int .i64 p.card.k.start, .int .i64 p.card.k.finish, .slice p.card.a p.card.n p.card.c] 53)).alloc (.cells #[.int .i64 q.runner, .bool q.started, .bool q.out, .int .i64 q.card.k.number, .int .i64 q.card.k.start, .int .i64 q.card.k.finish, .slice q.card.a q.card.n q.card.c] 53)) := below_alloc (below_alloc (Below.refl _ _) _) _
  have hsz : (w.alloc (.cells #[.int .i64 p.runner, .bool p.started, .bool p.out, .int .i64 p.card.k.number, .int .i64 p.card.k.start, .int .i64 p.card.k.finish, .slice p.card.a p.card.n p.card.c] 53)).heap.size = w.heap.size + 1 := by simp
  have hr1 := rangeAt_below (Run.rangeNew w p 53) (below_alloc (Below.refl _ _) (.cells #[.int .i64 q.runner, .bool q.started, .bool q.out, .int .i64 q.card.k.number, .int .i64 q.card.k.start, .int .i64 q.card.k.finish, .slice q.card.a q.card.n q.card.c] 53))
  have hr2 := Run.rangeNew (w.alloc (.cells #[.int .i64 p.runner, .bool p.started, .bool p.out, .int .i64 p.card.k.number, .int .i64 p.card.k.start, .int .i64 p.card.k.finish, .slice p.card.a p.card.n p.card.c] 53)) q 53
  rw [hsz] at hr2
  have HST := Lib.hid (fun (r : Run) (hr : r.card.In w) (ok : runOk r.k = true) (s : After ((w.alloc (.cells #[.int .i64 p.runner, .bool p.started, .bool p.out, .int .i64 p.card.k.number, .int .i64 p.card.k.start, .int .i64 p.card.k.finish, .slice p.card.a p.card.n p.card.c] 53)).alloc (.cells #[.int .i64 q.runner, .bool q.started, .bool q.out, .int .i64 q.card.k.number, .int .i64 q.card.k.start, .int .i64 q.card.k.finish, .slice q.card.a q.card.n q.card.c] 53))) => l15Status_any r cs v limit s.w' (hr.below (step_ hW (Nat.le_refl _) s.hb)) (hs.below (Flat.keeps _) (step_ hW (Nat.le_refl _) s.hb)) hn ok)
  have HP := Lib.hid (HST.out p hp okp)
  have HQ := Lib.hid (HST.out q hq okq)
  have HTP := Lib.hid (l15Time_ok p okp)
  have HTQ := Lib.hid (l15Time_ok q okq)
  have HV := Lib.hid (show befR cs limit p.k q.k = if stV p.k cs limit ≠ stV q.k cs limit then decide (stV p.k cs limit < stV q.k cs limit) else if stV p.k cs limit = 0 ∧ rtime p.k ≠ rtime q.k then decide (rtime p.k < rtime q.k) else decide (p.runner < q.runner) from rfl)
  obtain ⟨res, hres⟩ : ∃ res, befR cs limit p.k q.k = res := ⟨_, rfl⟩
  rw [hres] at HV ⊢
  obtain ⟨s1, hs1⟩ : ∃ s1, stV p.k cs limit = s1 := ⟨_, rfl⟩
  obtain ⟨s2, hs2⟩ : ∃ s2, stV q.k cs limit = s2 := ⟨_, rfl⟩
  rw [hs1] at HP HV
  rw [hs2] at HQ HV
  obtain ⟨d1, hd1⟩ : ∃ d1, rtime p.k = d1 := ⟨_, rfl⟩
  obtain ⟨d2, hd2⟩ : ∃ d2, rtime q.k = d2 := ⟨_, rfl⟩
  rw [hd1] at HTP HV
  rw [hd2] at HTQ HV
  have HW := Lib.hid hW
  clear hres hs1 hs2 hd1 hd2 HST hp hq okp okq hs hsz hW
  obtain ⟨r0, r1, r2, ⟨⟨x0, x1, x2, xs⟩, B, m, f⟩⟩ := p
  obtain ⟨y0, y1, y2, ⟨⟨z0, z1, z2, zs⟩, D, l, g⟩⟩ := q
  simp only [Run.val, Run.lst] at HP HQ HTP HTQ
  simp only at hr1 hr2 HW HV
  show Calls Try.prog 77 #[.agg #[.int .i64 r0, .bool r1, .bool r2, .int .i64 x0, .int .i64 x1, .int .i64 x2, .slice B m f], .agg #[.int .i64 y0, .bool y1, .bool y2, .int .i64 z0, .int .i64 z1, .int .i64 z2, .slice D l g], v, .int .i64 limit] w _
  have hk1 : ∀ s : After ((w.alloc (.cells #[.int .i64 r0, .bool r1, .bool r2, .int .i64 x0, .int .i64 x1, .int .i64 x2, .slice B m f] 53)).alloc (.cells #[.int .i64 y0, .bool y1, .bool y2, .int .i64 z0, .int .i64 z1, .int .i64 z2, .slice D l g] 53)), s.w'.cell? ⟨w.heap.size, 0, none⟩ = some (.int .i64 r0) := fun s => by have := rangeAt_below hr1 s.hb 0 _ rfl; simpa using this
  have hk2 : ∀ s : After ((w.alloc (.cells #[.int .i64 r0, .bool r1, .bool r2, .int .i64 x0, .int .i64 x1, .int .i64 x2, .slice B m f] 53)).alloc (.cells #[.int .i64 y0, .bool y1, .bool y2, .int .i64 z0, .int .i64 z1, .int .i64 z2, .slice D l g] 53)), s.w'.cell? ⟨w.heap.size + 1, 0, none⟩ = some (.int .i64 y0) := fun s => by have := rangeAt_below hr2 s.hb 0 _ rfl; simpa using this
  have HK1 := Lib.hid hk1
  have HK2 := Lib.hid hk2
  clear hk1 hk2
  by_cases hst : s1 = s2
  rotate_left
  · rw [if_pos hst] at HV
    have hst' : (s1 != s2) = true := by simpa using hst
    clear hst
    go_enter Try.func77, Try.ntmps77
    go_wp2_with fail
    refine region_after (by kernel_rfl) (by kernel_rfl) ?_
    repeat (any_goals (first | go_big_quiet_step ((first | (go_at_call 63; first | (with_reducible exact Calls.after (v := .int .i64 s1) _ (HP.out _)) | (with_reducible exact Calls.after (v := .int .i64 s2) _ (HQ.out _))))) | (refine Run.qloadImpl rfl _ rfl w.heap.size 0 rfl ⟨r0, r1, r2, ⟨⟨x0, x1, x2, xs⟩, B, m, f⟩⟩ hr1 ?_) | (refine Run.qloadImpl rfl _ rfl (w.heap.size + 1) 0 rfl ⟨y0, y1, y2, ⟨⟨z0, z1, z2, zs⟩, D, l, g⟩⟩ hr2 ?_) | quiet_step ((first | (go_at_call 63; first | (with_reducible exact Calls.after (v := .int .i64 s1) _ (HP.out _)) | (with_reducible exact Calls.after (v := .int .i64 s2) _ (HQ.out _)))))))
    refine wpQuiet_nil ?_
    intro s
    go_wp2
    all_goals
      go_ret
      exact ⟨ret_bool (by (rw [HV.out] <;> simp) <;> omega), step_ HW.out (Nat.le_refl _) s.hb⟩
  subst hst
  rw [if_neg (by simp)] at HV
  have hne : (s1 != s1) = false := by simp
  go_enter Try.func77, Try.ntmps77
  go_wp2_with fail
  refine region_after (by kernel_rfl) (by kernel_rfl) ?_
  repeat (any_goals (first | go_big_quiet_step ((first | (go_at_call 63; first | (with_reducible exact Calls.after (v := .int .i64 s1) _ (HP.out _)) | (with_reducible exact Calls.after (v := .int .i64 s1) _ (HQ.out _))))) | (refine Run.qloadImpl rfl _ rfl w.heap.size 0 rfl ⟨r0, r1, r2, ⟨⟨x0, x1, x2, xs⟩, B, m, f⟩⟩ hr1 ?_) | (refine Run.qloadImpl rfl _ rfl (w.heap.size + 1) 0 rfl ⟨y0, y1, y2, ⟨⟨z0, z1, z2, zs⟩, D, l, g⟩⟩ hr2 ?_) | quiet_step ((first | (go_at_call 63; first | (with_reducible exact Calls.after (v := .int .i64 s1) _ (HP.out _)) | (with_reducible exact Calls.after (v := .int .i64 s1) _ (HQ.out _)))))))
  refine wpQuiet_nil ?_
  intro s
  have hr1' := rangeAt_below hr1 s.hb
  have hr2' := rangeAt_below hr2 s.hb
  have hk1 := HK1.out s
  have hk2 := HK2.out s
  have HB := Lib.hid (step_ HW.out (Nat.le_refl _) s.hb)
  clear hr1 hr2 HP HQ HK1 HK2
  generalize s.w' = ws at hr1' hr2' HB hk1 hk2 ⊢
  by_cases hs0 : s1 = 0
  rotate_left
  · have hs0' : (s1 == 0) = false := by simpa using hs0
    rw [if_neg (by simp [hs0])] at HV
    have hj1 := After.keep hk1
    have hj2 := After.keep hk2
    clear hs0
    go_wp2
    refine region_after (by kernel_rfl) (by kernel_rfl) ?_
    repeat (any_goals (first | go_big_quiet_step (fail)  | quiet_step (fail)))
    refine wpQuiet_nil ?_
    intro s
    have hk1 := hj1 s
    have hk2 := hj2 s
    go_wp2
    go_ret
    exact ⟨ret_bool HV.out.symm, step_ HB.out (Nat.le_refl _) s.hb⟩
  subst hs0
  have hs0' : ((0 : Int) == 0) = true := by simp
  have hj1 := After.keep hk1
  have hj2 := After.keep hk2
  go_wp2
  refine region_after (by kernel_rfl) (by kernel_rfl) ?_
  repeat (any_goals (first | go_big_quiet_step ((first | (go_at_call 67; first | (with_reducible exact Calls.after (v := .int .i64 d1) _ (HTP.out _)) | (with_reducible exact Calls.after (v := .int .i64 d2) _ (HTQ.out _))))) | (refine Run.qloadImpl rfl _ rfl w.heap.size 0 rfl ⟨r0, r1, r2, ⟨⟨x0, x1, x2, xs⟩, B, m, f⟩⟩ hr1' ?_) | (refine Run.qloadImpl rfl _ rfl (w.heap.size + 1) 0 rfl ⟨y0, y1, y2, ⟨⟨z0, z1, z2, zs⟩, D, l, g⟩⟩ hr2' ?_) | quiet_step ((first | (go_at_call 67; first | (with_reducible exact Calls.after (v := .int .i64 d1) _ (HTP.out _)) | (with_reducible exact Calls.after (v := .int .i64 d2) _ (HTQ.out _)))))))
  refine wpQuiet_nil ?_
  intro s
  have hr1 := rangeAt_below hr1' s.hb
  have hr2 := rangeAt_below hr2' s.hb
  have hk1 := hj1 s
  have hk2 := hj2 s
  have HB2 := Lib.hid (step_ HB.out (Nat.le_refl _) s.hb)
  clear hr1' hr2' hj1 hj2
  generalize s.w' = wt at hr1 hr2 hk1 hk2 HB2 ⊢
  by_cases hd : d1 = d2
  · subst hd
    rw [if_neg (by simp)] at HV
    go_wp2
    go_ret
    exact ⟨ret_bool HV.out.symm, HB2.out⟩
  · rw [if_pos (by first | exact ⟨trivial, hd⟩ | exact ⟨rfl, hd⟩ | simpa using hd)] at HV
    have hd' : (d1 != d2) = true := by simpa using hd
    clear hd
    go_wp2
    refine region_after (by kernel_rfl) (by kernel_rfl) ?_
    repeat (any_goals (first | go_big_quiet_step ((first | (go_at_call 67; first | (with_reducible exact Calls.after (v := .int .i64 d1) _ (HTP.out _)) | (with_reducible exact Calls.after (v := .int .i64 d2) _ (HTQ.out _))))) | (refine Run.qloadImpl rfl _ rfl w.heap.size 0 rfl ⟨r0, r1, r2, ⟨⟨x0, x1, x2, xs⟩, B, m, f⟩⟩ hr1 ?_) | (refine Run.qloadImpl rfl _ rfl (w.heap.size + 1) 0 rfl ⟨y0, y1, y2, ⟨⟨z0, z1, z2, zs⟩, D, l, g⟩⟩ hr2 ?_) | quiet_step ((first | (go_at_call 67; first | (with_reducible exact Calls.after (v := .int .i64 d1) _ (HTP.out _)) | (with_reducible exact Calls.after (v := .int .i64 d2) _ (HTQ.out _)))))))
    refine wpQuiet_nil ?_
    intro s
    go_wp2
    go_ret
    exact ⟨ret_bool HV.out.symm, step_ HB2.out (Nat.le_refl _) s.hb⟩
end Go.Proofs.Ytojpklpfnmjikaa
