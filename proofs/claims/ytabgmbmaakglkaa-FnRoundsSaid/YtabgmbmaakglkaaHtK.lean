/- The walks of the reference's test of arguments and of its lucky ones. No condition. -/
import Derived.Test.YtabgmbmaakglkaaHtJ
import Derived.Test.YtabgmbmaakglkaaHtN
namespace Go.Proofs.Ytabgmbmaakglkaa
open Go Go.RowKit

set_option maxHeartbeats 1000000 in
theorem l18Asked_any (xs : List Ht) (v : Value) (d l : Int) (w : World) (h : HtS w v xs) (hl : xs.length ≤ 1048577) :
    Calls Try.prog 60 #[v, .int .i64 d, .int .i64 l] w fun e w' => e = .returned (.bool (askG (xs.map Ht.k) d l)) ∧ Below w.heap.size w w' := by
  have HG := Lib.hid (l18Good_any xs v w h hl)
  obtain ⟨q, hq⟩ : ∃ q, askG (xs.map Ht.k) d l = q := ⟨_, rfl⟩
  have HQ := Lib.hid hq
  rw [hq]
  unfold askG at HQ
  clear hq h
  cases h1 : goodR (xs.map Ht.k) with
  | false =>
    rw [h1] at HG HQ
    clear h1
    go_enter Try.func60, Try.ntmps60
    go_wp2_with (go_at_call 56; refine HG.out.mono ?_; rintro e w' ⟨rfl, hb⟩)
    go_ret
    exact ⟨ret_bool (by rw [← HQ.out]; rfl), hb⟩
  | true =>
    rw [h1] at HG HQ
    clear h1
    cases h2 : inB d 1 3 with
    | false =>
      have HQ := Lib.hid (show false = q by rw [← HQ.out, h2]; rfl)
      go_enter Try.func60, Try.ntmps60
      go_wp2_with (first
        | (go_at_call 56; refine HG.out.mono ?_; rintro e w' ⟨rfl, hb⟩)
        | (go_at_call 57; refine (l1In_any _ _ _ _).mono ?_; rintro e w'' ⟨rfl, rfl⟩))
      go_ret
      exact ⟨ret_bool HQ.out, hb⟩
    | true =>
      have HQ := Lib.hid (show inB l 0 6 = q by rw [← HQ.out, h2]; simp)
      go_enter Try.func60, Try.ntmps60
      go_wp2_with (first
        | (go_at_call 56; refine HG.out.mono ?_; rintro e w' ⟨rfl, hb⟩)
        | (go_at_call 57; refine (l1In_any _ _ _ _).mono ?_; rintro e w'' ⟨rfl, rfl⟩))
      go_ret
      exact ⟨ret_bool HQ.out, hb⟩

theorem l1Least_nat (a b : Nat) (w : World) : Calls Try.prog 85 #[.int .i64 (a : Int), .int .i64 (b : Int)] w fun e w' => e = .returned (.int .i64 ((min a b : Nat) : Int)) ∧ w = w' := by
  by_cases h : (a : Int) < (b : Int)
  · go_enter Try.func85, Try.ntmps85
    go_wp2
    go_ret
    exact ⟨ret_int (by omega), rfl⟩
  · go_enter Try.func85, Try.ntmps85
    go_wp2
    go_ret
    exact ⟨ret_int (by omega), rfl⟩

set_option maxRecDepth 100000 in
set_option maxHeartbeats 4000000 in
theorem l18Lucky_any (xs : List Ht) (v : Value) (d : Int) (l : Nat) (w : World) (h : HtS w v xs) (hg : goodR (xs.map Ht.k) = true) :
    Calls Try.prog 61 #[v, .int .i64 d, .int .i64 (l : Int)] w fun e w' => ∃ r, e = .returned r ∧ Row w.heap.size 80 3 w' r ((luckyN (xs.map Ht.k) d (l : Int)).map Fns.S) ∧ Below w.heap.size w w' := by
  have HPL := Lib.hid (l18Places_any xs v w h hg)
  have HAL := Lib.hid (goodR_len (goodR_iff.1 hg))
  obtain ⟨F, hF⟩ : ∃ F, F = allF (xs.map Ht.k) := ⟨_, rfl⟩
  have HLK := Lib.hid (show luckyN (xs.map Ht.k) d (l : Int) = (putAll ltTR (F.filter fun f => !decide (f.place < d))).take (min l (F.filter fun f => !decide (f.place < d)).length) by simp only [luckyN, restN, ← hF, Int.toNat_natCast])
  rw [← hF] at HPL HAL
  rw [HLK.out]
  clear h hg hF HLK
  go_enter Try.func61, Try.ntmps61
  go_wp2_with fail
  refine HPL.out.mono ?_
  rintro e w1 ⟨r1, rfl, row1, hb1⟩
  obtain ⟨A1, c1, rfl, hc1, hm1⟩ := row1.parts
  simp only [List.length_map] at row1 hc1 ⊢
  have HO0 := Lib.hid (show Own w 80 3 (w1.alloc (.cells #[] 80)) (.slice (some ⟨w1.heap.size, 0, none⟩) 0 0) [] from Own.nil hb1 _ rfl)
  have HR1 := Lib.hid (row1.alloc (.cells #[] 80))
  have HNE1 := Lib.hid (show (Value.slice A1 F.length c1).ownBlock = none ∨ (Value.slice A1 F.length c1).ownBlock ≠ (Value.slice (some ⟨w1.heap.size, 0, none⟩) 0 0).ownBlock from .inr (fun e => by have := (row1.lt _ e).2; simp at this))
  clear row1 hb1 HPL
  go_wp2
  go_loopw [8, 9] (fun o i wr => ∃ k : Nat, k ≤ F.length ∧ i = .int .i64 k ∧ Own w 80 3 wr o (((F.take k).filter fun f => !decide (f.place < d)).map Fns.S) ∧ Row w.heap.size 80 3 wr (.slice A1 F.length c1) (F.map Fns.S) ∧ Hid ((Value.slice A1 F.length c1).ownBlock = none ∨ (Value.slice A1 F.length c1).ownBlock ≠ o.ownBlock))
    (fun _ i _ => F.length - (intOf i).toNat)
  case atStart => exact ⟨0, Nat.zero_le _, rfl, HO0.out, HR1.out, HNE1.out⟩
  case round =>
    clear HO0 HR1 HNE1
    obtain ⟨k, hkl, rfl, own, hrow, HNE⟩ := hrel
    by_cases hlt : k < F.length
    · obtain ⟨g, cap, he, hbg, hg, hcap⟩ := hrow.form (by rw [List.length_map]; omega)
      simp only [Value.slice.injEq] at he
      obtain ⟨rfl, hq, rfl⟩ := he
      clear hq hcap hbg
      have hr1 := hrow.range (k := k) (by rw [List.length_map]; exact hlt)
      rw [List.getElem_map] at hr1
      have HST := Lib.hid (rest_take (d := d) hlt)
      have HLL := Lib.hid (show (((F.take k).filter fun f => !decide (f.place < d)).map Fns.S).length + 1 ≤ 2147483648 by
        rw [List.length_map]
        have h1 := List.length_filter_le (fun f : Fns => !decide (f.place < d)) (F.take k)
        have h2 := HAL.out
        rw [List.length_take] at h1
        omega)
      obtain ⟨cur, hcur⟩ : ∃ cur, cur = (F.take k).filter fun f => !decide (f.place < d) := ⟨_, rfl⟩
      rw [← hcur] at own HLL HST
      obtain ⟨x, hx⟩ : ∃ x, x = F[k] := ⟨_, rfl⟩
      rw [← hx] at hr1 HST
      clear hcur hx
      obtain ⟨xp, xt, xr⟩ := x
      simp only at HST
      obtain ⟨hc0, hc1', hc2'⟩ := Fns.cellsS hr1
      simp only at hc0 hc1' hc2'
      by_cases hp : xp < d
      · have hp' : decide (d ≤ xp) = false := by simp; omega
        have HSS := Lib.hid (show (F.take (k + 1)).filter (fun f => !decide (f.place < d)) = cur by rw [HST.out, if_pos hp, List.append_nil])
        clear hp
        go_wp2
        go_roundw
        case rel => exact ⟨k + 1, by omega, by go_num, by rw [HSS.out]; exact own, hrow, HNE.out⟩
        case measure => simp [intOf]; omega
      · have hp' : decide (d ≤ xp) = true := by simp; omega
        have HSS := Lib.hid (show ((F.take (k + 1)).filter (fun f => !decide (f.place < d))).map Fns.S = cur.map Fns.S ++ [[.int .i64 xp, .int .i64 xt, .int .i64 xr]] by rw [HST.out, if_neg hp, List.map_append]; rfl)
        have HO1 := Lib.hid (own.alloc (.cells #[.int .i64 xp, .int .i64 xt, .int .i64 xr] 80))
        have HSR := Lib.hid (show Src (wr.alloc (.cells #[.int .i64 xp, .int .i64 xt, .int .i64 xr] 80)) 3 (some ⟨wr.heap.size, 0, none⟩) 1 [[.int .i64 xp, .int .i64 xt, .int .i64 xr]] from Src.lit wr 80 [.int .i64 xp, .int .i64 xt, .int .i64 xr] wr.heap.size rfl rfl (by simp [Value.oneCell']))
        have HRA := Lib.hid (hrow.alloc (.cells #[.int .i64 xp, .int .i64 xt, .int .i64 xr] 80))
        have HGT := Lib.hid hg
        clear hp own hrow hg
        go_wp2_with (first
          | ((with_reducible refine at_load_ 80 ?_); refine Fns.loadS rfl _ rfl g (k * 3) rfl ⟨xp, xt, xr⟩ hr1 ?_)
          | (at_builtin; refine tyPl.append rfl _ _ rfl w.heap.size _ _ rfl HO1.out.1 _ 1 1 [[.int .i64 xp, .int .i64 xt, .int .i64 xr]] rfl HSR.out HLL.out HO1.out.2.size ?_; intro o5 w5 hrow5 hg5 hat5))
        have HB5 := Lib.hid (HO1.out.2.grown hg5 HO1.out.2.size (fun q hq => (HO1.out.1.lt q hq).1))
        have HR5 := Lib.hid (HRA.out.kept hg5 HNE.out)
        have HN5 := Lib.hid (show (Value.slice (some ⟨g, 0, none⟩) F.length c1).ownBlock = none ∨ (Value.slice (some ⟨g, 0, none⟩) F.length c1).ownBlock ≠ o5.ownBlock by
          rcases hat5 with e | e
          · rw [e]; exact HNE.out
          · rw [e]; exact .inr fun e2 => by have := HGT.out; simp [Value.ownBlock] at e2; omega)
        go_roundw
        case rel => exact ⟨k + 1, by omega, by go_num, by rw [HSS.out]; exact ⟨hrow5, HB5.out⟩, HR5.out, HN5.out⟩
        case measure => simp [intOf]; omega
    · obtain rfl : k = F.length := by omega
      rw [List.take_length] at own
      have HRL := Lib.hid (show (F.filter fun f => !decide (f.place < d)).length ≤ 24 by
        have h1 := List.length_filter_le (fun f : Fns => !decide (f.place < d)) F
        have h2 := HAL.out
        omega)
      obtain ⟨R, hR⟩ : ∃ R, R = F.filter fun f => !decide (f.place < d) := ⟨_, rfl⟩
      rw [← hR] at own HRL
      have HRE := Lib.hid hR
      clear hrow HNE HAL hR hc1 hm1
      have hse := own.1
      obtain ⟨A2, c2, rfl, hc2, hm2⟩ := own.1.parts
      simp only [List.length_map] at own hse hc2 ⊢
      have HSORT := Lib.hid (l18Sort_any R false _ wr (Sl.of_flat own.1) HRL.out)
      have HB := Lib.hid own.2
      clear own hse
      go_wp2_with fail
      refine HSORT.out.mono ?_
      rintro e w3 ⟨r3, rfl, row3, hb3⟩
      have row3 : Row wr.heap.size 80 3 w3 r3 ((putAll ltTR R).map Fns.S) := row3
      have HB3 := Lib.hid (step_ HB.out (Nat.le_refl _) hb3)
      have HLS := Lib.hid (putAll_len ltTR R)
      have hpm := putAll_len ltTR R
      obtain ⟨M, hM⟩ : ∃ M, M = putAll ltTR R := ⟨_, rfl⟩
      rw [← hM] at row3 hpm
      have HMD := Lib.hid hM
      clear hM hb3
      obtain ⟨A3, c3, rfl, hc3, hm3⟩ := row3.parts
      simp only [List.length_map] at row3 hc3 ⊢
      rw [hpm] at row3 hc3 ⊢
      obtain ⟨m, hmm⟩ : ∃ m, m = min l R.length := ⟨_, rfl⟩
      have hm0 : m ≤ R.length := by omega
      have HROW := Lib.hid (row3.mono HB.out.size)
      have HM := Lib.hid hpm
      have HMM := Lib.hid hmm
      have HLE := Lib.hid (l1Least_nat l R.length w3)
      rw [← hmm] at HLE
      have hk0 : (0 : Int) ≤ (m : Int) := by omega
      have hk1 : (m : Int) ≤ (R.length : Int) := by omega
      have hk2 : (m : Int) ≤ (c3 : Int) := by omega
      clear hmm hpm row3
      go_wp2_with fail
      refine HLE.out.mono ?_
      rintro e w4 ⟨rfl, rfl⟩
      go_wp2
      go_ret
      refine ⟨_, rfl, ?_, HB3.out⟩
      rw [← HRE.out, ← HMD.out, ← HMM.out]
      rcases A3 with _ | A3
      · have h0 := HROW.out.2.2
        rcases h0 with ⟨h1, h2⟩ | ⟨g', cap', cur', h1, _⟩
        · rw [List.length_map, HM.out] at h2
          simp only [Value.slice.injEq] at h1
          have : m = 0 := by omega
          subst this
          rw [h1.2.2, List.take_zero]
          exact Row.nil _ _ _ _
        · simp at h1
      · have h0 := HROW.out.2.2
        rcases h0 with ⟨h1, h2⟩ | ⟨g', cap', cur', h1, _⟩
        · simp at h1
        · simp only [Value.slice.injEq, Option.some.injEq] at h1
          obtain ⟨rfl, _, _⟩ := h1
          have := HROW.out.prefix_ (k := m) (by rw [List.length_map, HM.out]; exact hm0)
          rwa [← List.map_take] at this
end Go.Proofs.Ytabgmbmaakglkaa
