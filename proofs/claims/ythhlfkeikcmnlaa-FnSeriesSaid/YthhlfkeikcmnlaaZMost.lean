/- The walk of MostPossible, of the program. No condition. -/
import Derived.Test.YthhlfkeikcmnlaaZMostQStdQ
import Derived.Test.YthhlfkeikcmnlaaZLibSqz
import Derived.Test.YthhlfkeikcmnlaaZCount
import Derived.Deep.LoopGhost
namespace Go.Proofs.Ythhlfkeikcmnlaa
open Go Go.RowKit

set_option maxHeartbeats 1000000 in
theorem indexFunc_66 (cap0 : Value) (pr : Score → Bool) (ps : List Score) (v : Value) (w : World) (h : Sl (Flat Score.lst) 3 w v ps)
    (hf : ∀ s : After w, ∀ k (hk : k < ps.length), Calls Try.prog 66 #[ps[k].val, cap0] s.w' fun e w' => e = .returned (.bool (pr ps[k])) ∧ Below s.w'.heap.size s.w' w') :
    Calls Try.prog 94 #[v, .func (.func 66) #[] #[cap0]] w fun e w' => e = .returned (.int .i64 (idxA pr ps)) ∧ Below w.heap.size w w' := by
  obtain ⟨A, c, rfl, hc, hm, hk⟩ := h.open_
  have HF := Lib.hid hf
  clear hf
  go_enter Try.func94, Try.ntmps94
  go_wp2
  go_loopw [8] (fun i wr => ∃ k : Nat, k ≤ ps.length ∧ i = .int .i64 k ∧ Hid (∀ j (h : j < ps.length), j < k → pr ps[j] = false) ∧ Below w.heap.size w wr)
    (fun i _ => ps.length - (intOf i).toNat)
  case atStart => exact ⟨0, Nat.zero_le _, rfl, fun j h hj => absurd hj (by omega), Below.refl _ _⟩
  case round =>
    obtain ⟨k, hkl, rfl, HS, hb⟩ := hrel
    by_cases hlt : k < ps.length
    · obtain ⟨b, off, rfl, hat⟩ := flat_at hk (by omega)
      have hr := rangeAt_below (hat k hlt) hb
      clear hat hk h
      go_wp2_with ((with_reducible refine at_load_ 33 ?_); refine Score.loadImpl rfl _ rfl b (off + k * 3) rfl ps[k] hr ?_)
      refine (HF.out ⟨wr, hb⟩ k hlt).mono ?_
      rintro e w2 ⟨rfl, hb2⟩
      have hB := step_ hb (Nat.le_refl _) hb2
      by_cases hp : pr ps[k] = true
      · have HP := Lib.hid hp
        rw [hp]
        clear hp
        go_wp2
        go_ret
        exact ⟨ret_int (idxA_found hlt HP.out HS.out).symm, hB⟩
      · have hp' : pr ps[k] = false := by simpa using hp
        have HP := Lib.hid hp'
        rw [hp']
        clear hp hp'
        go_wp2
        go_roundw
        case rel => exact ⟨k + 1, by omega, by go_num, fun j hj hjk => by
          by_cases e : j < k
          · exact HS.out j hj e
          · obtain rfl : j = k := by omega
            exact HP.out, hB⟩
        case measure => simp [intOf]; omega
    · go_wp2
      go_ret
      obtain rfl : k = ps.length := by omega
      exact ⟨ret_int (idxA_none fun j hj => HS.out j hj hj).symm, hb⟩


theorem containsFunc_66 (cap0 : Value) (pr : Score → Bool) (ps : List Score) (v : Value) (w : World) (h : Sl (Flat Score.lst) 3 w v ps)
    (hf : ∀ s : After w, ∀ k (hk : k < ps.length), Calls Try.prog 66 #[ps[k].val, cap0] s.w' fun e w' => e = .returned (.bool (pr ps[k])) ∧ Below s.w'.heap.size s.w' w') :
    Calls Try.prog 65 #[v, .func (.func 66) #[] #[cap0]] w fun e w' => e = .returned (.bool (ps.any pr)) ∧ Below w.heap.size w w' := by
  have HI := Lib.hid (idxA_any pr ps)
  obtain ⟨r, hr⟩ : ∃ r, idxA pr ps = r := ⟨_, rfl⟩
  have hc := indexFunc_66 cap0 pr ps v w h hf
  rw [hr] at hc HI
  clear hr
  go_enter Try.func65, Try.ntmps65
  go_wp2_with (go_at_call 94; refine hc.mono ?_; rintro e w1 ⟨rfl, hb1⟩)
  go_ret
  exact ⟨ret_bool HI.out, hb1⟩


theorem raceIs_any (x : Score) (race : Int) (b : Nat) (w : World) (h1 : w.cell? ⟨b, 0, none⟩ = some (.int .i64 race)) :
    Calls Try.prog 66 #[x.val, .pointer (some ⟨b, 0, none⟩)] w fun e w' => e = .returned (.bool (x.race == race)) ∧ Below w.heap.size w w' := by
  obtain ⟨x, y, z⟩ := x
  have hlt := block_lt_of_cell h1
  simp only at hlt
  show Calls Try.prog 66 #[.agg #[.int .i64 x, .int .i64 y, .int .i64 z], .pointer (some ⟨b, 0, none⟩)] w _
  have hw1 : (w.alloc (.cells #[.int .i64 x, .int .i64 y, .int .i64 z] 33)).cell? ⟨b, 0, none⟩ = some (.int .i64 race) := After.keep h1 ⟨_, below_alloc (Below.refl _ _) _⟩
  go_enter Try.func66, Try.ntmps66
  go_wp2
  go_ret
  exact ⟨rfl, by (repeat (first | exact Below.refl _ _ | assumption | refine Below.drew ?_ | refine Below.alloc ?_ (by first | exact Nat.le_refl _ | (simp; done) | (simp; omega)) _))⟩

set_option maxRecDepth 100000 in
set_option maxHeartbeats 4000000 in
theorem impl_MostPossible (x0 x1 : Int) (x2 : List Score) (v2 : Value) (x3 x4 : Int) (w : World) (_ : I64 x0) (_ : I64 x1) (h : Sl (Flat Score.lst) 3 w v2 x2) (_ : ∀ x ∈ x2, Score.ok x) (_ : I64 x3) (_ : I64 x4) :
    Calls Try.prog 27 #[.int .i64 x0, .int .i64 x1, v2, .int .i64 x3, .int .i64 x4] w fun e w' => e = .returned (.tuple #[.int .i64 (mostV x0 x1 x2 x3 x4), .bool (mostB x0 x1 x2 x3 x4)]) ∧ Below w.heap.size w w' := by
  by_cases ha : askS x0 x1 x2 x3 = true
  · by_cases hi : inB x4 0 x0 = true
    · have hg : goodS x0 x1 x2 = true := (ask_iff.1 ha).1
      have HB := Lib.hid (show mostB x0 x1 x2 x3 x4 = true by simp [mostB, ha, hi])
      have HV := Lib.hid (show mostV x0 x1 x2 x3 x4 = totS x1 (ofS x2 x3 ++ extN x2 x3 x4 (x0 - x4).toNat) x3 by unfold mostV; rw [if_pos HB.out, tot_ext])
      have hn40 := good_len hg
      have hr := inB_iff.1 (goodS_iff.1 hg).1
      have hh := inB_iff.1 hi
      obtain ⟨hm0, hm8⟩ := good_best hg
      obtain ⟨hh0, hh8⟩ := hh
      obtain ⟨hr0, hr8⟩ := hr
      obtain ⟨N, hN⟩ : ∃ N : Nat, N = (x0 - x4).toNat := ⟨_, rfl⟩
      rw [← hN] at HV
      have hN8 : N ≤ 8 := by omega
      have HOL := Lib.hid (own_ext_len hg x3 x4 N hN8)
      have HSM := Lib.hid (small_ext (small_good hg) x3 x4 N (ofS_sub x2 x3))
      have h20 : (ownS x2 x3).length ≤ 20 := by have := own_len hg x3; omega
      have HOF := Lib.hid (show (ofS x2 x3).length ≤ 8 by rw [(ofS_perm x2 x3).length_eq]; exact own_len hg x3)
      have HA := Lib.hid ha
      have HI := Lib.hid hi
      have HSL := Lib.hid h
      obtain rfl : x0 = x4 + N := by omega
      clear ha hi hg hN
      go_enter Try.func27, Try.ntmps27
      go_wp2_with (first
        | (go_at_call 61; refine (hasScore_any _ x1 x2 x3 _ _ HSL.out).mono ?_; rintro e w1 ⟨rfl, hb1⟩; rw [HA.out])
        | (go_at_call 53; refine (inside_is _ _ _ true HI.out _).mono ?_; rintro e w2 ⟨rfl, rfl⟩)
        | (go_at_call 64; refine (scoresOf_any x2 x3 _ _ (HSL.out.below (Flat.keeps _) hb1) (by omega) h20).mono ?_; rintro e w3 ⟨o, rfl, row, hb3⟩))
      obtain ⟨base, hbase⟩ : ∃ base, base = ofS x2 x3 := ⟨_, rfl⟩
      rw [← hbase] at row HV HOL HSM HOF
      have own : Own w 33 3 w3 o (base.map Score.lst) := ⟨row.mono hb1.size, step_ hb1 (Nat.le_refl _) hb3⟩
      have HBS := Lib.hid hbase
      clear row hb1 hb3 h hbase
      have hne := own.ne_new w3.heap.size (Nat.le_refl _)
      go_loopg [12, 13] N (fun g s q wr => ∃ k b : Nat, k ≤ N ∧ N - k ≤ g ∧ q = .pointer (some ⟨b, 0, none⟩) ∧ Own w 33 3 wr s ((base ++ extN x2 x3 x4 k).map Score.lst) ∧ wr.cell? ⟨b, 0, none⟩ = some (.int .i64 (x4 + 1 + k)) ∧ s.ownBlock ≠ some b)
      case atStart => exact ⟨0, _, Nat.zero_le _, Nat.le_refl _, rfl, by simpa [extN] using own.alloc _, by simp, hne⟩
      case round =>
        obtain ⟨k, b, hkN, hg, rfl, own, hcell, hne⟩ := hrel
        by_cases hlt : k < N
        · have HS := Lib.hid (show extN x2 x3 x4 (k + 1) = extN x2 x3 x4 k ++ if hasR x2 x3 (x4 + 1 + k) = true then [] else [⟨x3, x4 + 1 + k, 1000⟩] from rfl)
          have HANY := Lib.hid (any_ext x2 x3 x4 k)
          rw [← HBS.out] at HANY
          obtain ⟨t, ht⟩ : ∃ t, t = base ++ extN x2 x3 x4 k := ⟨_, rfl⟩
          have hl : t.length ≤ 16 := by rw [ht, List.length_append]; have := extN_len x2 x3 x4 k; have := HOF.out; omega
          rw [← ht] at own HANY
          have HT := Lib.hid ht
          have HOB := Lib.hid own
          have HNE := Lib.hid hne
          obtain ⟨has, hhas⟩ : ∃ has, has = hasR x2 x3 (x4 + 1 + k) := ⟨_, rfl⟩
          rw [← hhas] at HS HANY
          have HLL := Lib.hid (show (t.map Score.lst).length + 1 ≤ 2147483648 by simp; omega)
          clear ht own hne hhas
          cases has with
          | true =>
            go_wp2_with (first
              | (go_at_call 65
                 refine (containsFunc_66 _ (fun s => s.race == x4 + 1 + k) t _ _ (Sl.of_flat HOB.out.1) (fun s j hj => raceIs_any t[j] (x4 + 1 + k) b s.w' (After.keep hcell s))).mono ?_
                 rintro e w5 ⟨rfl, hb5⟩
                 rw [HANY.out]
                 have hcell5 : w5.cell? ⟨b, 0, none⟩ = some (.int .i64 (x4 + 1 + k)) := After.keep hcell ⟨w5, hb5⟩
                 have HO5 := Lib.hid (HOB.out.below hb5)))
            go_roundg (N - (k + 1))
            case measure => omega
            case rel =>
              exact ⟨k + 1, w5.heap.size, by omega, Nat.le_refl _, rfl, by rw [HS.out, ← List.append_assoc, ← HT.out]; simpa using HO5.out.alloc _, by rw [show x4 + 1 + ((k + 1 : Nat) : Int) = x4 + 1 + k + 1 by omega]; simp, HO5.out.ne_new _ (Nat.le_refl _)⟩
          | false =>
            go_wp2_with (first
              | (go_at_call 65
                 refine (containsFunc_66 _ (fun s => s.race == x4 + 1 + k) t _ _ (Sl.of_flat HOB.out.1) (fun s j hj => raceIs_any t[j] (x4 + 1 + k) b s.w' (After.keep hcell s))).mono ?_
                 rintro e w5 ⟨rfl, hb5⟩
                 rw [HANY.out]
                 have hcell5 : w5.cell? ⟨b, 0, none⟩ = some (.int .i64 (x4 + 1 + k)) := After.keep hcell ⟨w5, hb5⟩
                 have HO5 := Lib.hid (HOB.out.below hb5))
              | (at_builtin; refine tyScore.append rfl _ _ rfl w.heap.size _ _ rfl (HO5.out.alloc _).1 _ 1 1 [[.int .i64 x3, .int .i64 (x4 + 1 + k), .int .i64 1000]] rfl (Src.lit _ _ _ _ (by simp) rfl (by simp [Value.oneCell'])) HLL.out (by simp; exact Nat.le_succ_of_le HO5.out.2.size) ?_; intro o6 w6 hrow6 hg6 _
                 have hcell6 : w6.cell? ⟨b, 0, none⟩ = some (.int .i64 (x4 + 1 + k)) := World.grownBy.cell_far_ hg6 (After.keep hcell5 ⟨_, below_alloc (Below.refl _ _) _⟩) HNE.out))
            have HB6 := Lib.hid ((HO5.out.alloc (.cells #[.int .i64 x3, .int .i64 (x4 + 1 + k), .int .i64 1000] 33)).2.grown hg6 (HO5.out.alloc (.cells #[.int .i64 x3, .int .i64 (x4 + 1 + k), .int .i64 1000] 33)).2.size (fun q hq => (HO5.out.1.lt q hq).1))
            go_roundg (N - (k + 1))
            case measure => omega
            case rel =>
              have own6 : Own w 33 3 w6 o6 ((base ++ extN x2 x3 x4 (k + 1)).map Score.lst) := by
                rw [HS.out, ← List.append_assoc, ← HT.out, List.map_append]
                exact ⟨hrow6, HB6.out⟩
              exact ⟨k + 1, w6.heap.size, by omega, Nat.le_refl _, rfl, own6.alloc _, by rw [show x4 + 1 + ((k + 1 : Nat) : Int) = x4 + 1 + k + 1 by omega]; simp, own6.ne_new _ (Nat.le_refl _)⟩
        · obtain rfl : k = N := by omega
          go_wp2_with (go_at_call 62; refine (totalOf_any (base ++ extN x2 x3 x4 k) x1 x3 _ _ (Sl.of_flat own.1) (by rw [List.length_append]; have := extN_len x2 x3 x4 k; have := HOF.out; omega) HOL.out (by omega) (by omega) HSM.out).mono ?_; rintro e w6 ⟨rfl, hb6⟩)
          go_ret2
          exact ⟨by (rw [HV.out, HB.out] <;> rfl), step_ own.2 (Nat.le_refl _) hb6⟩
    · have hi' : inB x4 0 x0 = false := by simpa using hi
      have HB := Lib.hid (show mostB x0 x1 x2 x3 x4 = false by simp [mostB, hi'])
      have HV := Lib.hid (show mostV x0 x1 x2 x3 x4 = 0 by unfold mostV; rw [HB.out]; rfl)
      have HA := Lib.hid ha
      have HI := Lib.hid hi'
      clear ha hi hi'
      go_enter Try.func27, Try.ntmps27
      go_wp2_with (first
        | (go_at_call 61; refine (hasScore_any x0 x1 x2 x3 _ _ h).mono ?_; rintro e w1 ⟨rfl, hb1⟩; rw [HA.out])
        | (go_at_call 53; refine (inside_is _ _ _ false HI.out _).mono ?_; rintro e w2 ⟨rfl, rfl⟩))
      go_ret2
      exact ⟨by (rw [HV.out, HB.out] <;> rfl), hb1⟩
  · have ha' : askS x0 x1 x2 x3 = false := by simpa using ha
    have HB := Lib.hid (show mostB x0 x1 x2 x3 x4 = false by simp [mostB, ha'])
    have HV := Lib.hid (show mostV x0 x1 x2 x3 x4 = 0 by unfold mostV; rw [HB.out]; rfl)
    have HA := Lib.hid ha'
    clear ha ha'
    go_enter Try.func27, Try.ntmps27
    go_wp2_with (go_at_call 61; refine (hasScore_any x0 x1 x2 x3 _ _ h).mono ?_; rintro e w1 ⟨rfl, hb1⟩; rw [HA.out])
    go_ret2
    exact ⟨by (rw [HV.out, HB.out] <;> rfl), hb1⟩
end Go.Proofs.Ythhlfkeikcmnlaa
