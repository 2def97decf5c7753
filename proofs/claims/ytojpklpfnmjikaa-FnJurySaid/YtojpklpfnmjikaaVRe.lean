/- The laws' tests of two cards and of two lists of runs of one meaning: they are true. No condition. -/
import Derived.Test.YtojpklpfnmjikaaByte
import Derived.Test.YtojpklpfnmjikaaRnM
namespace Go.Proofs.Ytojpklpfnmjikaa
open Go Go.RowKit

set_option maxRecDepth 100000 in
set_option maxHeartbeats 4000000 in
theorem vPunches_any (xs : List Punch) (v v' : Value) (w : World) (h : Sl (Flat Punch.lst) 2 w v xs) (h' : Sl (Flat Punch.lst) 2 w v' xs) :
    Calls Try.prog 116 #[v, v'] w fun e w' => e = .returned (.bool true) ∧ Below w.heap.size w w' := by
  obtain ⟨A, c, rfl, hc, hm, hk⟩ := h.open_
  obtain ⟨A', c', rfl, hc', hm', hk'⟩ := h'.open_
  clear h h'
  go_enter Try.func116, Try.ntmps116
  go_wp2
  go_loopw [5] (fun i wr => ∃ k : Nat, k ≤ xs.length ∧ i = .int .i64 k ∧ Below w.heap.size w wr)
    (fun i _ => xs.length - (intOf i).toNat)
  case atStart => exact ⟨0, Nat.zero_le _, rfl, Below.refl _ _⟩
  case round =>
    obtain ⟨k, hkl, rfl, hb⟩ := hrel
    by_cases hlt : k < xs.length
    · obtain ⟨b, off, rfl, hat⟩ := flat_at hk (by omega)
      obtain ⟨b', off', rfl, hat'⟩ := flat_at hk' (by omega)
      have hr := rangeAt_below (hat k hlt) hb
      have hr' := rangeAt_below (hat' k hlt) hb
      generalize xs[k] = x at hr hr'
      obtain ⟨x0, x1⟩ := x
      clear hat hat' hk hk'
      go_wp2
      refine region_after (by kernel_rfl) (by kernel_rfl) ?_
      repeat (any_goals (first | go_big_quiet_step ((fail)) | (refine Punch.qloadImpl rfl _ rfl b (off + k * 2) rfl ⟨x0, x1⟩ hr ?_) | (refine Punch.qloadImpl rfl _ rfl b' (off' + k * 2) rfl ⟨x0, x1⟩ hr' ?_) | quiet_step ((fail)) | (refine wpQuiet_step (fun K hK => ?_); go_simp; split <;> (refine hK _ ?_; clear hK K))))
      all_goals (refine wpQuiet_nil ?_; intro s)
      all_goals go_wp2
      all_goals go_roundw
      case rel => exact ⟨k + 1, by omega, by go_num, step_ hb (Nat.le_refl _) s.hb⟩
      case measure => simp [intOf]; omega
    · go_wp2
      go_ret
      exact ⟨rfl, hb⟩
set_option maxHeartbeats 1000000 in
theorem vCard_any (p q : Card) (w : World) (hk : p.k = q.k) (hp : p.In w) (hq : q.In w) :
    Calls Try.prog 86 #[p.val, q.val] w fun e w' => e = .returned (.bool true) ∧ Below w.heap.size w w' := by
  obtain ⟨⟨r0, r1, r2, sp⟩, A, n, c⟩ := p
  obtain ⟨⟨r0', r1', r2', sp'⟩, A', n', c'⟩ := q
  simp only [CdK.mk.injEq] at hk
  obtain ⟨rfl, rfl, rfl, rfl⟩ := hk
  have h1 : Sl (Flat Punch.lst) 2 w (.slice A n c) sp := hp
  have h2 : Sl (Flat Punch.lst) 2 w (.slice A' n' c') sp := hq
  show Calls Try.prog 86 #[.agg #[.int .i64 r0, .int .i64 r1, .int .i64 r2, .slice A n c], .agg #[.int .i64 r0, .int .i64 r1, .int .i64 r2, .slice A' n' c']] w _
  have HC := Lib.hid (fun W (hW : Below w.heap.size w W) => vPunches_any sp _ _ W (h1.below (Flat.keeps _) hW) (h2.below (Flat.keeps _) hW))
  have hW : Below w.heap.size w ((w.alloc (.cells #[.int .i64 r0, .int .i64 r1, .int .i64 r2, .slice A n c] 51)).alloc (.cells #[.int .i64 r0, .int .i64 r1, .int .i64 r2, .slice A' n' c'] 51)) := by (repeat (first | exact Below.refl _ _ | assumption | refine Below.drew ?_ | refine Below.alloc ?_ (by first | exact Nat.le_refl _ | (simp; done) | (simp; omega)) _))
  clear hp hq h1 h2
  go_enter Try.func86, Try.ntmps86
  go_wp2_with (go_at_call 116; refine (HC.out _ hW).mono ?_; rintro e w1 ⟨rfl, hb1⟩)
  go_ret
  exact ⟨rfl, step_ hW (Nat.le_refl _) hb1⟩
set_option maxRecDepth 100000 in
set_option maxHeartbeats 4000000 in
theorem vRuns_any (ps qs : List Run) (v v' : Value) (w : World) (h : RunS w v ps) (h' : RunS w v' qs) (hkk : ps.map Run.k = qs.map Run.k) :
    Calls Try.prog 47 #[v, v'] w fun e w' => e = .returned (.bool true) ∧ Below w.heap.size w w' := by
  have hl : ps.length = qs.length := by have := congrArg List.length hkk; simpa using this
  have HKE := Lib.hid (show ∀ k (h1 : k < ps.length) (h2 : k < qs.length), ps[k].k = qs[k].k by
    intro k h1 h2
    have : (ps.map Run.k)[k]? = (qs.map Run.k)[k]? := by rw [hkk]
    simpa [h1, h2] using this)
  have HI := Lib.hid h.2
  have HI' := Lib.hid h'.2
  obtain ⟨A, c, rfl, hc, hm, hk⟩ := h.1.open_
  obtain ⟨A', c', rfl, hc', hm', hk'⟩ := h'.1.open_
  obtain ⟨n, hn⟩ : ∃ n, qs.length = n := ⟨_, rfl⟩
  have HN := Lib.hid hn
  have hpn : ps.length = n := by rw [hl, hn]
  have HP := Lib.hid hpn
  rw [hn] at hc'
  rw [hpn] at hc
  clear h h' hkk hl
  rw [hn, hpn]
  clear hn hpn
  go_enter Try.func47, Try.ntmps47
  go_wp2_with fail
  go_loopw [5] (fun i wr => ∃ k : Nat, k ≤ n ∧ i = .int .i64 k ∧ Below w.heap.size w wr)
    (fun i _ => n - (intOf i).toNat)
  case atStart => exact ⟨0, Nat.zero_le _, rfl, Below.refl _ _⟩
  case round =>
    obtain ⟨k, hkl, rfl, hb⟩ := hrel
    by_cases hlt : k < n
    · have hlp : k < ps.length := by rw [HP.out]; exact hlt
      have hlq : k < qs.length := by rw [HN.out]; exact hlt
      obtain ⟨b, off, rfl, hat⟩ := flat_at hk (by omega)
      obtain ⟨b', off', rfl, hat'⟩ := flat_at hk' (by omega)
      have hr := rangeAt_below (hat k hlp) hb
      have hr' := rangeAt_below (hat' k hlq) hb
      have hke := HKE.out k hlp hlq
      have HC := Lib.hid (fun (s : After wr) => vCard_any ps[k].card qs[k].card s.w' (congrArg RunK.card hke) (((HI.out _ (List.getElem_mem hlp)).below hb).below s.hb) (((HI'.out _ (List.getElem_mem hlq)).below hb).below s.hb))
      have h0 : ps[k].runner = qs[k].runner := congrArg RunK.runner hke
      have h1 : ps[k].started = qs[k].started := congrArg RunK.started hke
      have h2 : ps[k].out = qs[k].out := congrArg RunK.out hke
      clear hat hat' hk hk' hke
      generalize ps[k] = p at *
      generalize qs[k] = q at *
      obtain ⟨p0, p1, p2, dp⟩ := p
      obtain ⟨q0, q1, q2, dq⟩ := q
      simp only at h0 h1 h2
      subst h0
      subst h1
      subst h2
      have hcd := Run.cardRange hr
      have hcd' := Run.cardRange hr'
      have hd0 := After.keep (Run.cells hr).1
      have hd1 := After.keep (Run.cells hr).2.1
      have hd2 := After.keep (Run.cells hr).2.2.1
      have he0 := After.keep (Run.cells hr').1
      have he1 := After.keep (Run.cells hr').2.1
      have he2 := After.keep (Run.cells hr').2.2.1
      clear hr hr'
      go_wp2_with fail
      refine region_after (by kernel_rfl) (by kernel_rfl) ?_
      repeat (any_goals (first | go_big_quiet_step (((go_at_call 86; exact Calls.after (v := .bool true) _ (HC.out _)))) | (refine Card.qloadImpl rfl _ rfl b (off + k * 7 + 3) rfl dp hcd ?_) | (refine Card.qloadImpl rfl _ rfl b' (off' + k * 7 + 3) rfl dq hcd' ?_) | quiet_step (((go_at_call 86; exact Calls.after (v := .bool true) _ (HC.out _)))) | (refine wpQuiet_step (fun K hK => ?_); go_simp; split <;> (refine hK _ ?_; clear hK K))))
      all_goals (refine wpQuiet_nil ?_; intro s)
      go_wp2_with fail
      go_roundw
      case rel => exact ⟨k + 1, by omega, by go_num, step_ hb (Nat.le_refl _) s.hb⟩
      case measure => simp [intOf]; omega
    · go_wp2_with fail
      go_ret
      exact ⟨rfl, hb⟩
end Go.Proofs.Ytojpklpfnmjikaa
