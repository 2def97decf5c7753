/- The laws' tests of two races and of two lists of runs of one meaning: they are true. No condition. -/
import Derived.Test.YtfmgnbkneccekaaVRc
import Derived.Test.YtfmgnbkneccekaaRunM
namespace Go.Proofs.Ytfmgnbkneccekaa
open Go Go.RowKit

set_option maxRecDepth 100000 in
set_option maxHeartbeats 4000000 in
theorem vRace_any (p q : Race) (w : World) (hk : p.k = q.k) (hp : p.In w) (hq : q.In w) :
    Calls Try.prog 55 #[p.val, q.val] w fun e w' => e = .returned (.bool true) ∧ Below w.heap.size w w' := by
  have hpl := hp.len
  have hql := hq.len
  obtain ⟨cl, cd, A, n, c, zs⟩ := p
  obtain ⟨cl', cd', A', n', c', zs'⟩ := q
  simp only at hpl hql
  subst hpl
  subst hql
  simp only [Race.k, RaceK.mk.injEq] at hk
  obtain ⟨rfl, rfl, hkk⟩ := hk
  have hl : zs.length = zs'.length := by have := congrArg List.length hkk; simpa using this
  have HKE := Lib.hid (show ∀ k (h1 : k < zs.length) (h2 : k < zs'.length), zs[k].k = zs'[k].k by
    intro k h1 h2
    have : (zs.map Ent.k)[k]? = (zs'.map Ent.k)[k]? := by rw [hkk]
    simpa [h1, h2] using this)
  have hs : EntS w (.slice A zs.length c) zs := hp
  have hs' : EntS w (.slice A' zs'.length c') zs' := hq
  have HI := Lib.hid hs.2
  have HI' := Lib.hid hs'.2
  obtain ⟨A1, c1, hv, hc, hm, hk⟩ := hs.1.open_
  simp only [Value.slice.injEq] at hv
  obtain ⟨rfl, _, rfl⟩ := hv
  obtain ⟨A2, c2, hv, hc', hm', hk'⟩ := hs'.1.open_
  simp only [Value.slice.injEq] at hv
  obtain ⟨rfl, _, rfl⟩ := hv
  show Calls Try.prog 55 #[.agg #[.int .i64 cl, .bool cd, .slice A zs.length c], .agg #[.int .i64 cl, .bool cd, .slice A' zs'.length c']] w _
  obtain ⟨n, hn⟩ : ∃ n, zs'.length = n := ⟨_, rfl⟩
  have HN := Lib.hid hn
  have hpn : zs.length = n := by rw [hl, hn]
  have HP := Lib.hid hpn
  rw [hn] at hc'
  rw [hpn] at hc
  clear hp hq hs hs' hkk hl
  rw [hn, hpn]
  clear hn hpn
  have hW : Below w.heap.size w ((w.alloc (.cells #[.int .i64 cl, .bool cd, .slice A n c] 24)).alloc (.cells #[.int .i64 cl, .bool cd, .slice A' n c'] 24)) := below_alloc (below_alloc (Below.refl _ _) _) _
  have hx1 : LitAt ((w.alloc (.cells #[.int .i64 cl, .bool cd, .slice A n c] 24)).alloc (.cells #[.int .i64 cl, .bool cd, .slice A' n c'] 24)) w.heap.size 24 [.int .i64 cl, .bool cd, .slice A n c] := LitAt.alloc (LitAt.new _ _ _ _ rfl) _
  have hx2 : LitAt ((w.alloc (.cells #[.int .i64 cl, .bool cd, .slice A n c] 24)).alloc (.cells #[.int .i64 cl, .bool cd, .slice A' n c'] 24)) (w.heap.size + 1) 24 [.int .i64 cl, .bool cd, .slice A' n c'] := LitAt.new _ _ _ _ (by simp)
  go_enter Try.func55, Try.ntmps55
  go_upto_region 1 with fail
  generalize (w.alloc (.cells #[.int .i64 cl, .bool cd, .slice A n c] 24)).alloc (.cells #[.int .i64 cl, .bool cd, .slice A' n c'] 24) = W1 at hW hx1 hx2 ⊢
  have HX := Lib.hid (show ∀ W, Below W1.heap.size W1 W → (W.cell? ⟨w.heap.size, 0, none⟩ = some (.int .i64 cl) ∧ W.cell? ⟨w.heap.size, 1, none⟩ = some (.bool cd) ∧ W.cell? ⟨w.heap.size, 2, none⟩ = some (.slice A n c)) ∧ (W.cell? ⟨w.heap.size + 1, 0, none⟩ = some (.int .i64 cl) ∧ W.cell? ⟨w.heap.size + 1, 1, none⟩ = some (.bool cd) ∧ W.cell? ⟨w.heap.size + 1, 2, none⟩ = some (.slice A' n c')) from fun W hb => by
    have r1 := (hx1.below hb).range
    have r2 := (hx2.below hb).range
    have a0 := r1 0 _ rfl
    have a1 := r1 1 _ rfl
    have a2 := r1 2 _ rfl
    have b0 := r2 0 _ rfl
    have b1 := r2 1 _ rfl
    have b2 := r2 2 _ rfl
    simp only [Nat.zero_add] at a0 a1 a2 b0 b1 b2
    exact ⟨⟨a0, a1, a2⟩, b0, b1, b2⟩)
  have HW := Lib.hid hW
  clear hx1 hx2 hW
  obtain ⟨⟨a0, a1, a2⟩, b0, b1, b2⟩ := HX.out W1 (Below.refl _ _)
  go_wp2_with fail
  clear a0 a1 a2 b0 b1 b2
  go_loopw [5] (fun i wr => ∃ k : Nat, k ≤ n ∧ i = .int .i64 k ∧ Below W1.heap.size W1 wr)
    (fun i _ => n - (intOf i).toNat)
  case atStart => exact ⟨0, Nat.zero_le _, rfl, Below.refl _ _⟩
  case round =>
    obtain ⟨k, hkl, rfl, hb⟩ := hrel
    obtain ⟨⟨a0, a1, a2⟩, b0, b1, b2⟩ := HX.out wr hb
    by_cases hlt : k < n
    · have hlp : k < zs.length := by rw [HP.out]; exact hlt
      have hlq : k < zs'.length := by rw [HN.out]; exact hlt
      obtain ⟨b, off, rfl, hat⟩ := flat_at hk (by omega)
      obtain ⟨b', off', rfl, hat'⟩ := flat_at hk' (by omega)
      have hB := step_ HW.out (Nat.le_refl _) hb
      have hr := rangeAt_below (hat k hlp) hB
      have hr' := rangeAt_below (hat' k hlq) hB
      have hke := HKE.out k hlp hlq
      have HC := Lib.hid (fun (s : After wr) => vCard_any zs[k].card zs'[k].card s.w' (congrArg EntK.card hke) (((HI.out _ (List.getElem_mem hlp)).below hB).below s.hb) (((HI'.out _ (List.getElem_mem hlq)).below hB).below s.hb))
      have hse : zs[k].state = zs'[k].state := congrArg EntK.state hke
      clear hat hat' hk hk' hke
      generalize zs[k] = p at *
      generalize zs'[k] = q at *
      obtain ⟨sp, dp⟩ := p
      obtain ⟨sq, dq⟩ := q
      simp only at hse
      subst hse
      have hcd := Ent.cardRange hr
      have hcd' := Ent.cardRange hr'
      have hd1 := After.keep (Ent.cells hr).1
      have hd2 := After.keep (Ent.cells hr').1
      have ha2 := After.keep a2
      have hb2 := After.keep b2
      clear hr hr'
      go_wp2_with fail
      refine region_after (by kernel_rfl) (by kernel_rfl) ?_
      repeat (any_goals (first | go_big_quiet_step (((go_at_call 81; exact Calls.after (v := .bool true) _ (HC.out _)))) | (refine Card.qloadImpl rfl _ rfl b (off + k * 5 + 1) rfl dp hcd ?_) | (refine Card.qloadImpl rfl _ rfl b' (off' + k * 5 + 1) rfl dq hcd' ?_) | quiet_step (((go_at_call 81; exact Calls.after (v := .bool true) _ (HC.out _)))) | (refine wpQuiet_step (fun K hK => ?_); go_simp; split <;> (refine hK _ ?_; clear hK K))))
      all_goals (refine wpQuiet_nil ?_; intro s)
      go_wp2_with fail
      go_roundw
      case rel => exact ⟨k + 1, by omega, by go_num, step_ hb (Nat.le_refl _) s.hb⟩
      case measure => simp [intOf]; omega
    · go_wp2_with fail
      go_ret
      exact ⟨rfl, step_ HW.out (Nat.le_refl _) hb⟩
set_option maxRecDepth 100000 in
set_option maxHeartbeats 4000000 in
theorem vRuns_any (ps qs : List Run) (v v' : Value) (w : World) (h : RunS w v ps) (h' : RunS w v' qs) (hkk : ps.map Run.k = qs.map Run.k) :
    Calls Try.prog 47 #[v, v'] w fun e w' => e = .returned (.bool true) ∧ Below w.heap.size w w' := by
  have hl : ps.length = qs.length := by have := congrArg List.length hkk; simpa using this
  have HKE := Lib.hid (show ∀ k (h1 : k < ps.length) (h2 : k < qs.length), ps[k].k = qs[k].k by
    intro k h1 h2
    have : (ps.map Run.k)[k]? = (qs.map Run.k)[k]? := by rw [hkk]
    simpa [h1, h2] using this)
  have HI := Lib.hid h.2
  have HI' := Lib.hid h'.2
  obtain ⟨A, c, rfl, hc, hm, hk⟩ := h.1.open_
  obtain ⟨A', c', rfl, hc', hm', hk'⟩ := h'.1.open_
  obtain ⟨n, hn⟩ : ∃ n, qs.length = n := ⟨_, rfl⟩
  have HN := Lib.hid hn
  have hpn : ps.length = n := by rw [hl, hn]
  have HP := Lib.hid hpn
  rw [hn] at hc'
  rw [hpn] at hc
  clear h h' hkk hl
  rw [hn, hpn]
  clear hn hpn
  go_enter Try.func47, Try.ntmps47
  go_wp2_with fail
  go_loopw [5] (fun i wr => ∃ k : Nat, k ≤ n ∧ i = .int .i64 k ∧ Below w.heap.size w wr)
    (fun i _ => n - (intOf i).toNat)
  case atStart => exact ⟨0, Nat.zero_le _, rfl, Below.refl _ _⟩
  case round =>
    obtain ⟨k, hkl, rfl, hb⟩ := hrel
    by_cases hlt : k < n
    · have hlp : k < ps.length := by rw [HP.out]; exact hlt
      have hlq : k < qs.length := by rw [HN.out]; exact hlt
      obtain ⟨b, off, rfl, hat⟩ := flat_at hk (by omega)
      obtain ⟨b', off', rfl, hat'⟩ := flat_at hk' (by omega)
      have hr := rangeAt_below (hat k hlp) hb
      have hr' := rangeAt_below (hat' k hlq) hb
      have hke := HKE.out k hlp hlq
      have HC := Lib.hid (fun (s : After wr) => vCard_any ps[k].card qs[k].card s.w' (congrArg RunK.card hke) (((HI.out _ (List.getElem_mem hlp)).below hb).below s.hb) (((HI'.out _ (List.getElem_mem hlq)).below hb).below s.hb))
      have h0 : ps[k].runner = qs[k].runner := congrArg RunK.runner hke
      have h1 : ps[k].started = qs[k].started := congrArg RunK.started hke
      have h2 : ps[k].out = qs[k].out := congrArg RunK.out hke
      clear hat hat' hk hk' hke
      generalize ps[k] = p at *
      generalize qs[k] = q at *
      obtain ⟨p0, p1, p2, dp⟩ := p
      obtain ⟨q0, q1, q2, dq⟩ := q
      simp only at h0 h1 h2
      subst h0
      subst h1
      subst h2
      have hcd := Run.cardRange hr
      have hcd' := Run.cardRange hr'
      have hd0 := After.keep (Run.cells hr).1
      have hd1 := After.keep (Run.cells hr).2.1
      have hd2 := After.keep (Run.cells hr).2.2.1
      have he0 := After.keep (Run.cells hr').1
      have he1 := After.keep (Run.cells hr').2.1
      have he2 := After.keep (Run.cells hr').2.2.1
      clear hr hr'
      go_wp2_with fail
      refine region_after (by kernel_rfl) (by kernel_rfl) ?_
      repeat (any_goals (first | go_big_quiet_step (((go_at_call 81; exact Calls.after (v := .bool true) _ (HC.out _)))) | (refine Card.qloadImpl rfl _ rfl b (off + k * 7 + 3) rfl dp hcd ?_) | (refine Card.qloadImpl rfl _ rfl b' (off' + k * 7 + 3) rfl dq hcd' ?_) | quiet_step (((go_at_call 81; exact Calls.after (v := .bool true) _ (HC.out _)))) | (refine wpQuiet_step (fun K hK => ?_); go_simp; split <;> (refine hK _ ?_; clear hK K))))
      all_goals (refine wpQuiet_nil ?_; intro s)
      go_wp2_with fail
      go_roundw
      case rel => exact ⟨k + 1, by omega, by go_num, step_ hb (Nat.le_refl _) s.hb⟩
      case measure => simp [intOf]; omega
    · go_wp2_with fail
      go_ret
      exact ⟨rfl, hb⟩
end Go.Proofs.Ytfmgnbkneccekaa
