/- The library's insertion of integers, by a comparison; its stable sort of at most forty. Condition: the comparison is an order up to ties, the numbers ascend. -/
import Derived.Test.YthhlfkeikcmnlaaZSymP
namespace Go.Proofs.Ythhlfkeikcmnlaa
open Go Go.RowKit
theorem Row.set_eq_ {base : Nat} {e : TypeId} {sz : Nat} {w : World} {v : Value} {l l' : List (List Value)} (h : Row base e sz w v l) (he : l = l') : Row base e sz w v l' := he ▸ h

set_option maxRecDepth 100000 in
set_option maxHeartbeats 4000000 in
theorem insertion_73 (cap0 : Value) (cap1 : Value) (cf : IntE → IntE → Int) (base g n cap a b : Nat) (P0 M R : List IntE) (w : World) (hrow : Row base 3 1 w (.slice (some ⟨g, 0, none⟩) n cap) ((P0 ++ (M ++ R)).map IntE.lst)) (hn : n = (P0 ++ (M ++ R)).length) (ha : a = P0.length) (hb0 : b = P0.length + M.length) (hc : cap ≤ 9223372036854775807) (hsm : n ≤ 2147483648)
    (hf : ∀ W (x y : IntE), x ∈ M → y ∈ M → w.grownBy W (some g) → Calls Try.prog 73 #[x.val, y.val, cap0, cap1] W fun e w' => e = .returned (.int .i64 (cf x y)) ∧ Below W.heap.size W w') :
    Calls Try.prog 107 #[.slice (some ⟨g, 0, none⟩) n cap, .int .i64 a, .int .i64 b, .func (.func 73) #[] #[cap0, cap1]] w fun e w' => e = .returned (.tuple #[]) ∧ Row base 3 1 w' (.slice (some ⟨g, 0, none⟩) n cap) ((P0 ++ (putAll (ltC cf) M ++ R)).map IntE.lst) ∧ w.grownBy w' (some g) := by
  subst hn
  have hcl : (P0 ++ (M ++ R)).length ≤ cap := by
    rcases hrow.2.2 with ⟨h1, _⟩ | ⟨g', cap', cur, h1, _, _, hnc, _⟩
    · simp at h1
    · simp at h1 hnc
      simp; omega
  have HF := Lib.hid hf
  have HN := Lib.hid (show (P0 ++ (M ++ R)).length = a + M.length + R.length by simp; omega)
  obtain ⟨N, hN⟩ : ∃ N, N = (P0 ++ (M ++ R)).length := ⟨_, rfl⟩
  rw [← hN] at hrow hcl HN hsm ⊢
  have hNa : a + M.length ≤ N := by have := HN.out; omega
  have HA := Lib.hid ha
  have hb1 : b ≤ a + M.length := by omega
  have hb2 : a + M.length ≤ b := by omega
  clear hf ha hN hb0
  go_enter Try.func107, Try.ntmps107
  go_wp2
  go_loopw [8, 9] (fun i _ wr => ∃ (k : Nat), 1 ≤ k ∧ (k ≤ M.length ∨ k = 1) ∧ i = .int .i64 ((a : Int) + (k : Int)) ∧ Row base 3 1 wr (.slice (some ⟨g, 0, none⟩) N cap) ((P0 ++ (putAll (ltC cf) (M.take k) ++ (M.drop k ++ R))).map IntE.lst) ∧ w.grownBy wr (some g))
    (fun i _ _ => a + M.length - (intOf i).toNat)
  case atStart =>
    refine ⟨1, by omega, .inr rfl, rfl, ?_, World.grownBy.refl _ _⟩
    have e : putAll (ltC cf) (M.take 1) ++ (M.drop 1 ++ R) = M ++ R := by
      cases M with
      | nil => rfl
      | cons x xs => rfl
    rw [e]
    exact hrow
  case round =>
    obtain ⟨k, hk1, hk2, rfl, hry, hgr⟩ := hrel
    by_cases hlt : k < M.length
    · have hdec : decide ((a : Int) + (k : Int) < (b : Int)) = true := by simp; omega
      go_wp2
      obtain ⟨wo, rfl⟩ : ∃ wo : World, wo = wr := ⟨_, rfl⟩
      have hpl : (putAll (ltC cf) (M.take k)).length = k := by rw [putAll_len]; simp; omega
      have HST := Lib.hid (putAll_take (ltC cf) M k hlt)
      have hmem : ∀ y ∈ putAll (ltC cf) (M.take k), y ∈ M := fun y hy => List.mem_of_mem_take ((putAll_perm _ _).mem_iff.1 hy)
      obtain ⟨pre, hpre⟩ : ∃ pre, putAll (ltC cf) (M.take k) = pre := ⟨_, rfl⟩
      rw [hpre] at hpl hry HST hmem
      have hxm : M[k] ∈ M := List.getElem_mem hlt
      obtain ⟨x, hx⟩ : ∃ x, M[k] = x := ⟨_, rfl⟩
      rw [hx] at HST hxm
      have hdr : M.drop k ++ R = x :: (M.drop (k + 1) ++ R) := by rw [List.drop_eq_getElem_cons hlt, hx]; rfl
      rw [hdr, ← midIn_start, hpl] at hry
      have HPL := Lib.hid hpl
      have HMEM := Lib.hid hmem
      have hrl : (M.drop (k + 1) ++ R).length = M.length - (k + 1) + R.length := by simp
      obtain ⟨rest, hrest⟩ : ∃ rest, rest = M.drop (k + 1) ++ R := ⟨_, rfl⟩
      rw [← hrest] at hry hrl
      have HRL := Lib.hid hrl
      have HREST := Lib.hid hrest
      clear hdr hpl hpre hx hrl hrest hmem
      go_loopw [9] (fun jv wi => ∃ (j : Nat), j ≤ k ∧ jv = .int .i64 ((a : Int) + (j : Int)) ∧ Hid (∀ p (h : p < pre.length), j ≤ p → ltC cf x pre[p] = true) ∧ Row base 3 1 wi (.slice (some ⟨g, 0, none⟩) N cap) ((P0 ++ midIn pre rest x j).map IntE.lst) ∧ w.grownBy wi (some g))
        (fun jv _ => (intOf jv).toNat - a)
      case atStart => exact ⟨k, Nat.le_refl _, rfl, fun p h hp => absurd h (by rw [HPL.out]; omega), hry, hgr⟩
      case round =>
        obtain ⟨j, hjk, rfl, HB, hrz, hgz⟩ := hrel
        have HJP := Lib.hid (show j ≤ pre.length by rw [HPL.out]; exact hjk)
        have HML := Lib.hid (show (P0 ++ midIn pre rest x j).length = N by have := HN.out; rw [List.length_append, midIn_len HJP.out, HPL.out, HRL.out, ← HA.out]; omega)
        by_cases h0 : 0 < j
        · have hjm : a + j < ((P0 ++ midIn pre rest x j).map IntE.lst).length := by rw [List.length_map, HML.out]; omega
          have hjm1 : a + j - 1 < ((P0 ++ midIn pre rest x j).map IntE.lst).length := by rw [List.length_map, HML.out]; omega
          have hjp : j - 1 < pre.length := by rw [HPL.out]; omega
          have hjn : a + j < (P0 ++ midIn pre rest x j).length := by rw [HML.out]; omega
          have hjn1 : a + (j - 1) < (P0 ++ midIn pre rest x j).length := by rw [HML.out]; omega
          have hc1 := row_int hrz hjn
          have e1 : (P0 ++ midIn pre rest x j)[a + j] = x := by
            rw [List.getElem_append_right (by rw [← HA.out]; omega)]
            have e2 : a + j - P0.length = j := by rw [← HA.out]; omega
            simp only [e2]
            rw [midIn_at HJP.out]
          have hc2 := row_int hrz hjn1
          have e3 : (P0 ++ midIn pre rest x j)[a + (j - 1)] = pre[j - 1]'hjp := by
            rw [List.getElem_append_right (by rw [← HA.out]; omega)]
            have e2 : a + (j - 1) - P0.length = j - 1 := by rw [← HA.out]; omega
            simp only [e2]
            rw [midIn_before h0 HJP.out]
          have hym : pre[j - 1]'hjp ∈ M := HMEM.out _ (List.getElem_mem hjp)
          rw [e1] at hc1
          rw [e3] at hc2
          obtain ⟨y, hy⟩ : ∃ y, pre[j - 1]'hjp = y := ⟨_, rfl⟩
          rw [hy] at hc2 hym
          have HY := Lib.hid hy
          obtain ⟨r, hr4⟩ : ∃ r, cf x y = r := ⟨_, rfl⟩
          have HR := Lib.hid hr4
          have HC := Lib.hid (fun (s : After wr) => (HF.out s.w' x y hxm hym (grown_trans hgz (grown_of s.hb))).mono fun e w' (h : e = .returned (.int .i64 (cf x y)) ∧ Below s.w'.heap.size s.w' w') => (show e = .returned (.int .i64 r) ∧ Below s.w'.heap.size s.w' w' from ⟨by rw [h.1, hr4], h.2⟩))
          obtain ⟨u, hu⟩ : ∃ u, a + j = u := ⟨_, rfl⟩
          obtain ⟨q, hq⟩ : ∃ q, a + (j - 1) = q := ⟨_, rfl⟩
          rw [hu] at hc1
          rw [hq] at hc2
          have hd1 := After.keep hc1
          have hd2 := After.keep hc2
          have HKU := Lib.hid (show u < ((P0 ++ midIn pre rest x j).map ints).length by rw [List.length_map]; omega)
          have HKQ := Lib.hid (show q < ((P0 ++ midIn pre rest x j).map ints).length by rw [List.length_map]; omega)
          have hiu : (a : Int) + (j : Int) = (u : Int) := by omega
          have hiq : (u : Int) - 1 = (q : Int) := by omega
          have hun : u < N := by omega
          have hqu : q < u := by omega
          have hau : a < u := by omega
          have hqa : a ≤ q := by omega
          have HQ := Lib.hid (show a + (j - 1) = q ∧ a + j = u from ⟨hq, hu⟩)
          clear hy hr4 hjm hjm1 e1 e3 hjn hjn1 hc1 hc2 hq hu
          by_cases hl : r < 0
          · have hl' : decide (r < 0) = true := by simpa using hl
            go_wp2
            refine region_after (by kernel_rfl) (by kernel_rfl) ?_
            repeat (any_goals (first | go_big_quiet_step (((go_at_call 73; exact Calls.after (v := .int .i64 r) _ (HC.out _))))  | quiet_step (((go_at_call 73; exact Calls.after (v := .int .i64 r) _ (HC.out _)))) | (refine wpQuiet_step (fun K hK => ?_); go_simp; split <;> (refine hK _ ?_; clear hK K))))
            all_goals (refine wpQuiet_nil ?_; intro s)
            have hrs := hrz.below s.hb
            have hgs : w.grownBy s.w' (some g) := grown_trans hgz (grown_of s.hb)
            have he1 := hd1 s
            have he2 := hd2 s
            have hf1 := hrs.frozen u
            have hf2 := hrs.frozen q
            obtain ⟨ws, hws⟩ : ∃ ws, s.w' = ws := ⟨_, rfl⟩
            rw [hws] at hrs hgs he1 he2 hf1 hf2 ⊢
            clear hws s hrz hd1 hd2 HC
            go_wp2
            go_region
            obtain ⟨r1, g1⟩ := row_int_set hrs (k := u) HKU.out y
            obtain ⟨r2, g2⟩ := row_int_set r1 (k := q) (by rw [List.length_set]; exact HKQ.out) x
            have r3 := r2.drew
            have g3 : w.grownBy ((ws.setCell ⟨g, u, none⟩ (.int .i64 y)).setCell ⟨g, q, none⟩ (.int .i64 x)).drew (some g) := grown_trans hgs (grown_trans g1 ⟨g2.os, g2.tape, g2.output, g2.size, g2.block⟩)
            have HSW := midIn_swap_map IntE.lst P0 pre rest x h0 HJP.out HA.out
            rw [HQ.out.1, HQ.out.2, HY.out] at HSW
            have r4 : Row base 3 1 ((ws.setCell ⟨g, u, none⟩ (.int .i64 y)).setCell ⟨g, q, none⟩ (.int .i64 x)).drew (.slice (some ⟨g, 0, none⟩) N cap) ((P0 ++ midIn pre rest x (j - 1)).map IntE.lst) := r3.set_eq_ HSW
            have HQ1 := Lib.hid (show (q : Int) = (a : Int) + ((j - 1 : Nat) : Int) by have := HQ.out.1; omega)
            clear r1 g1 r2 g2 r3 hrs hgs he1 he2 hf1 hf2 HSW
            go_wp2
            go_roundw
            case rel =>
              refine ⟨j - 1, by omega, by rw [← HQ1.out], fun p hp hjp2 => ?_, r4, g3⟩
              by_cases e : p = j - 1
              · subst e; rw [HY.out]; unfold ltC; rw [HR.out]; exact hl'
              · exact HB.out p hp (by omega)
            case measure => simp [intOf]; omega
          · have hl' : decide (r < 0) = false := by simpa using hl
            go_wp2
            refine region_after (by kernel_rfl) (by kernel_rfl) ?_
            repeat (any_goals (first | go_big_quiet_step (((go_at_call 73; exact Calls.after (v := .int .i64 r) _ (HC.out _))))  | quiet_step (((go_at_call 73; exact Calls.after (v := .int .i64 r) _ (HC.out _)))) | (refine wpQuiet_step (fun K hK => ?_); go_simp; split <;> (refine hK _ ?_; clear hK K))))
            all_goals (refine wpQuiet_nil ?_; intro s)
            have hrs := hrz.below s.hb
            have hgs : w.grownBy s.w' (some g) := grown_trans hgz (grown_of s.hb)
            go_wp2
            go_roundw
            case rel =>
              refine ⟨k + 1, by omega, .inl (by omega), by go_num, ?_, hgs⟩
              rw [HST.out]
              rw [midIn_end (ltC cf) HJP.out HB.out (.inr ⟨hjp, by rw [HY.out]; unfold ltC; rw [HR.out]; exact hl'⟩), HREST.out] at hrs
              exact hrs
            case measure => simp [intOf]; omega
        · obtain rfl : j = 0 := by omega
          have hz : decide ((a : Int) < (a : Int)) = false := by simp
          clear h0
          go_wp2
          refine region_after (by kernel_rfl) (by kernel_rfl) ?_
          repeat (any_goals (first | go_big_quiet_step (fail)  | quiet_step (fail) | (refine wpQuiet_step (fun K hK => ?_); go_simp; split <;> (refine hK _ ?_; clear hK K))))
          all_goals (refine wpQuiet_nil ?_; intro s)
          have hrs := hrz.below s.hb
          have hgs : w.grownBy s.w' (some g) := grown_trans hgz (grown_of s.hb)
          go_wp2
          go_roundw
          case rel =>
            refine ⟨k + 1, by omega, .inl (by omega), by go_num, ?_, hgs⟩
            rw [HST.out]
            rw [midIn_end (ltC cf) HJP.out HB.out (.inl rfl), HREST.out] at hrs
            exact hrs
          case measure => simp [intOf]; omega
    · go_wp2
      go_end0
      refine ⟨rfl, ?_, hgr⟩
      have hk3 : M.length ≤ k := by omega
      rw [List.take_of_length_le hk3, List.drop_of_length_le hk3, List.nil_append] at hry
      exact hry


end Go.Proofs.Ythhlfkeikcmnlaa
