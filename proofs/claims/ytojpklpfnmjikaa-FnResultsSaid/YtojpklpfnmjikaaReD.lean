/- The walks of TimesBehind. No condition. -/
import Derived.Test.YtojpklpfnmjikaaReC
namespace Go.Proofs.Ytojpklpfnmjikaa
open Go Go.RowKit

set_option maxRecDepth 100000 in
set_option maxHeartbeats 4000000 in
theorem impl_TimesBehind (xs : List Run) (ks : List RunK) (v : Value) (cs : List Int) (u : Value) (limit : Int) (w : World) (hks : xs.map Run.k = ks) (h : RunS w v xs) (hs : Sl (Flat ints) 1 w u cs) (_ : ∀ x ∈ cs, I64 x) (_ : I64 limit) :
    Calls Try.prog 34 #[v, u, .int .i64 limit] w fun e w' => ∃ r, e = .returned (.tuple #[r, .bool (askR ks cs limit)]) ∧ Row w.heap.size 3 1 w' r ((tbV ks cs limit).map ints) ∧ Below w.heap.size w w' := by
  subst hks
  have HAS := Lib.hid (canJudge_any xs cs limit v u w h hs)
  by_cases ha : askR (xs.map Run.k) cs limit = true
  rotate_left
  · have ha' : askR (xs.map Run.k) cs limit = false := by simpa using ha
    have HV := Lib.hid (show tbV (xs.map Run.k) cs limit = [] by simp [tbV, ha'])
    rw [ha'] at HAS ⊢
    rw [HV.out]
    clear ha ha' h hs
    go_enter Try.func34, Try.ntmps34
    go_wp2_with (go_at_call 64; refine HAS.out.mono ?_; rintro e w1 ⟨rfl, hb1⟩)
    go_ret2
    exact ⟨_, rfl, Row.nil _ _ _ _, hb1⟩
  obtain ⟨hg, hco, hl1, hl2⟩ := askR_parts ha
  have hlen := codesOk_len hco
  have hxl := goodRs_len hg
  have HST := Lib.hid (fun k (hk : k < xs.length) W (hW : Below w.heap.size w W) => statusOf_any xs[k] cs u limit W ((h.2 _ (List.getElem_mem hk)).below hW) (hs.below (Flat.keeps _) hW) (by omega) (goodRs_ok hg _ (List.getElem_mem hk)))
  have HOK := Lib.hid (goodRs_ok hg)
  have HV := Lib.hid (show tbV (xs.map Run.k) cs limit = tbL cs limit (leastN cs limit (xs.map Run.k)) (xs.map Run.k) by simp [tbV, ha])
  obtain ⟨A, c, rfl, hc, hm, hk⟩ := h.1.open_
  rw [ha] at HAS ⊢
  rw [HV.out]
  have HLS := Lib.hid (leastN_step cs limit (xs.map Run.k))
  have HSM := Lib.hid (show ∀ k, -36001 ≤ leastN cs limit ((xs.map Run.k).take k) ∧ leastN cs limit ((xs.map Run.k).take k) ≤ 36000 from fun k => by
    rw [← leastN_eq]
    refine leastT_small _ (fun q hq => ?_)
    have h1 := (List.mem_filter.1 hq).1
    obtain ⟨p, hp, rfl⟩ := List.mem_map.1 (List.mem_of_mem_take h1)
    exact rtime_small (goodRs_ok hg p hp))
  have HTS := Lib.hid (fun m => tbL_step cs limit m (xs.map Run.k))
  have HTL := Lib.hid (tbL_len cs limit)
  have HKK := Lib.hid (show ∀ k (h : k < xs.length) (h' : k < (xs.map Run.k).length), (xs.map Run.k)[k] = xs[k].k from fun k _ _ => by simp)
  have HLM := Lib.hid (show (xs.map Run.k).length = xs.length by simp)
  obtain ⟨ks, hks⟩ : ∃ ks, ks = xs.map Run.k := ⟨_, rfl⟩
  rw [← hks] at HLS HSM HTS HKK HLM ⊢
  clear ha hg hco h hs hlen hks HV
  go_enter Try.func34, Try.ntmps34
  go_wp2_with (go_at_call 64; refine HAS.out.mono ?_; rintro e w1 ⟨rfl, hb1⟩)
  have HO := Lib.hid (show Own w 3 1 (w1.alloc (.cells #[] 3)) (.slice (some ⟨w1.heap.size, 0, none⟩) 0 0) [] from Own.nil hb1 _ rfl)
  clear hb1
  go_loopw [8, 23] (fun m i wr => ∃ k : Nat, k ≤ xs.length ∧ i = .int .i64 k ∧ m = .int .i64 (leastN cs limit (ks.take k)) ∧ Own w 3 1 wr (.slice (some ⟨w1.heap.size, 0, none⟩) 0 0) [])
    (fun _ i _ => xs.length - (intOf i).toNat)
  case atStart => exact ⟨0, Nat.zero_le _, rfl, by simp [leastN], HO.out⟩
  case round =>
    obtain ⟨k, hkl, rfl, rfl, own⟩ := hrel
    by_cases hlt : k < xs.length
    · obtain ⟨b, off, rfl, hat⟩ := flat_at hk (by omega)
      have hr := rangeAt_below (hat k hlt) own.2
      have hkk : k < ks.length := by rw [HLM.out]; exact hlt
      have hst := HLS.out k hkk
      rw [HKK.out k hlt hkk] at hst
      have HCALL := Lib.hid (HST.out k hlt)
      have hts := rtime_small (HOK.out _ (List.getElem_mem hlt))
      have HTK := Lib.hid (fun W => runTime_ok xs[k] (HOK.out _ (List.getElem_mem hlt)) W)
      obtain ⟨cur, hcur⟩ : ∃ cur, cur = leastN cs limit (ks.take k) := ⟨_, rfl⟩
      rw [← hcur] at hst ⊢
      obtain ⟨x, hx⟩ : ∃ x, x = xs[k] := ⟨_, rfl⟩
      rw [← hx] at hr HCALL HTK hst hts
      have HO1 := Lib.hid (own.alloc (.cells #[.int .i64 x.runner, .bool x.started, .bool x.out, .int .i64 x.card.k.number, .int .i64 x.card.k.start, .int .i64 x.card.k.finish, .slice x.card.a x.card.n x.card.c] 53))
      have hrn := Run.rangeNew wr x 53
      obtain ⟨s, hs⟩ : ∃ s, s = stV x.k cs limit := ⟨_, rfl⟩
      obtain ⟨tk, htk⟩ : ∃ tk, tk = rtime x.k := ⟨_, rfl⟩
      rw [← hs, ← htk] at hst
      rw [← hs] at HCALL
      rw [← htk] at HTK hts
      obtain ⟨ht1, ht2⟩ := hts
      have HSTP := Lib.hid hst
      clear hat hk hst hcur hx hs htk own
      by_cases hz : s = 0
      · subst hz
        go_wp2_with (first
          | ((with_reducible refine at_load_ 53 ?_); refine Run.loadImpl rfl _ rfl b (off + k * 7) rfl _ hr ?_)
          | ((with_reducible refine at_load_ 53 ?_); refine Run.loadImpl rfl _ rfl wr.heap.size 0 rfl _ hrn ?_)
          | (go_at_call 65; refine (HCALL.out _ HO1.out.2).mono ?_; rintro e w3 ⟨rfl, hb3⟩; have HO3 := Lib.hid (HO1.out.below hb3); have hrn3 := rangeAt_below hrn hb3)
          | ((with_reducible refine at_load_ 53 ?_); refine Run.loadImpl rfl _ rfl wr.heap.size 0 rfl _ hrn3 ?_)
          | (go_at_call 68; refine (HTK.out _).mono ?_; rintro e w4 ⟨rfl, hb4⟩; have HO4 := Lib.hid (HO3.out.below hb4)))
        go_roundw
        case rel => exact ⟨k + 1, by omega, by go_num, by (rw [HSTP.out]; refine congrArg (Value.int .i64) ?_; rw [if_pos trivial]; split <;> omega), HO4.out⟩
        case measure => simp [intOf]; omega
      · have hz' : (s == 0) = false := by simpa using hz
        rw [if_neg hz] at HSTP
        go_wp2_with (first
          | ((with_reducible refine at_load_ 53 ?_); refine Run.loadImpl rfl _ rfl b (off + k * 7) rfl _ hr ?_)
          | ((with_reducible refine at_load_ 53 ?_); refine Run.loadImpl rfl _ rfl wr.heap.size 0 rfl _ hrn ?_)
          | (go_at_call 65; refine (HCALL.out _ HO1.out.2).mono ?_; rintro e w3 ⟨rfl, hb3⟩; have HO3 := Lib.hid (HO1.out.below hb3)))
        go_roundw
        case rel => exact ⟨k + 1, by omega, by go_num, by rw [HSTP.out], HO3.out⟩
        case measure => simp [intOf]; omega
    · obtain rfl : k = xs.length := by omega
      have e1 : ks.take xs.length = ks := by rw [← HLM.out]; exact List.take_length
      have hsm := HSM.out xs.length
      rw [e1] at hsm ⊢
      obtain ⟨m, hm'⟩ : ∃ m, m = leastN cs limit ks := ⟨_, rfl⟩
      rw [← hm'] at hsm ⊢
      obtain ⟨hm1, hm2⟩ := hsm
      have HTS := Lib.hid (HTS.out m)
      have HO := Lib.hid own
      have HM := Lib.hid hm'
      clear e1 hm' own hlt
      go_wp2
      go_loopw [9, 39] (fun o i wr => ∃ k : Nat, k ≤ xs.length ∧ i = .int .i64 k ∧ Own w 3 1 wr o ((tbL cs limit m (ks.take k)).map ints))
        (fun _ i _ => xs.length - (intOf i).toNat)
      case atStart => exact ⟨0, Nat.zero_le _, rfl, by simpa [tbL] using HO.out⟩
      case round =>
        clear HO
        obtain ⟨k, hkl, rfl, own⟩ := hrel
        by_cases hlt : k < xs.length
        · obtain ⟨b, off, rfl, hat⟩ := flat_at hk (by omega)
          have hr := rangeAt_below (hat k hlt) own.2
          have hkk : k < ks.length := by rw [HLM.out]; exact hlt
          have hst := HTS.out k hkk
          rw [HKK.out k hlt hkk] at hst
          have HLL := Lib.hid (show ((tbL cs limit m (ks.take k)).map ints).length + 1 ≤ 2147483648 by have := HLM.out; rw [List.length_map, HTL.out]; simp; omega)
          have HCALL := Lib.hid (HST.out k hlt)
          have hts := rtime_small (HOK.out _ (List.getElem_mem hlt))
          have HTK := Lib.hid (fun W => runTime_ok xs[k] (HOK.out _ (List.getElem_mem hlt)) W)
          obtain ⟨pl, hpl⟩ : ∃ pl, pl = (tbL cs limit m (ks.take k)).map ints := ⟨_, rfl⟩
          rw [← hpl] at hst HLL own
          obtain ⟨x, hx⟩ : ∃ x, x = xs[k] := ⟨_, rfl⟩
          rw [← hx] at hr HCALL HTK hst hts
          have HO1 := Lib.hid (own.alloc (.cells #[.int .i64 x.runner, .bool x.started, .bool x.out, .int .i64 x.card.k.number, .int .i64 x.card.k.start, .int .i64 x.card.k.finish, .slice x.card.a x.card.n x.card.c] 53))
          have hrn := Run.rangeNew wr x 53
          obtain ⟨s, hs⟩ : ∃ s, s = stV x.k cs limit := ⟨_, rfl⟩
          obtain ⟨tk, htk⟩ : ∃ tk, tk = rtime x.k := ⟨_, rfl⟩
          rw [← hs, ← htk] at hst
          rw [← hs] at HCALL
          rw [← htk] at HTK hts
          obtain ⟨ht1, ht2⟩ := hts
          have HSTP := Lib.hid hst
          clear hat hk hst hpl hx hs htk own
          by_cases hz : s = 0
          · subst hz
            rw [if_pos rfl] at HSTP
            go_wp2_with (first
              | ((with_reducible refine at_load_ 53 ?_); refine Run.loadImpl rfl _ rfl b (off + k * 7) rfl _ hr ?_)
              | ((with_reducible refine at_load_ 53 ?_); refine Run.loadImpl rfl _ rfl wr.heap.size 0 rfl _ hrn ?_)
              | (go_at_call 65; refine (HCALL.out _ HO1.out.2).mono ?_; rintro e w3 ⟨rfl, hb3⟩; have HO3 := Lib.hid (HO1.out.below hb3); have hrn3 := rangeAt_below hrn hb3)
              | ((with_reducible refine at_load_ 53 ?_); refine Run.loadImpl rfl _ rfl wr.heap.size 0 rfl _ hrn3 ?_)
              | (go_at_call 68; refine (HTK.out _).mono ?_; rintro e w4 ⟨rfl, hb4⟩; have HO4 := Lib.hid (HO3.out.below hb4); have HN := Lib.hid (HO4.out.alloc (.cells #[.int .i64 (tk - m)] 3)); have HS := Lib.hid (Src.lit w4 3 (ints (tk - m)) _ rfl rfl (ints_one _)))
              | (at_builtin; refine tyInt.append rfl _ _ rfl w.heap.size _ _ rfl HN.out.1 _ 1 1 [ints (tk - m)] rfl HS.out HLL.out HN.out.2.size ?_; intro o5 w5 hrow5 hg5 _))
            have HB5 := Lib.hid (HN.out.2.grown hg5 HN.out.2.size (fun q hq => (HN.out.1.lt q hq).1))
            go_roundw
            case rel => exact ⟨k + 1, by omega, by go_num, by rw [HSTP.out]; exact ⟨hrow5, HB5.out⟩⟩
            case measure => simp [intOf]; omega
          · have hz' : (s == 0) = false := by simpa using hz
            rw [if_neg hz] at HSTP
            go_wp2_with (first
              | ((with_reducible refine at_load_ 53 ?_); refine Run.loadImpl rfl _ rfl b (off + k * 7) rfl _ hr ?_)
              | ((with_reducible refine at_load_ 53 ?_); refine Run.loadImpl rfl _ rfl wr.heap.size 0 rfl _ hrn ?_)
              | (go_at_call 65; refine (HCALL.out _ HO1.out.2).mono ?_; rintro e w3 ⟨rfl, hb3⟩; have HO3 := Lib.hid (HO1.out.below hb3); have HN := Lib.hid (HO3.out.alloc (.cells #[.int .i64 (-1)] 3)); have HS := Lib.hid (Src.lit w3 3 (ints (-1)) _ rfl rfl (ints_one _)))
              | (at_builtin; refine tyInt.append rfl _ _ rfl w.heap.size _ _ rfl HN.out.1 _ 1 1 [ints (-1)] rfl HS.out HLL.out HN.out.2.size ?_; intro o5 w5 hrow5 hg5 _))
            have HB5 := Lib.hid (HN.out.2.grown hg5 HN.out.2.size (fun q hq => (HN.out.1.lt q hq).1))
            go_roundw
            case rel => exact ⟨k + 1, by omega, by go_num, by rw [HSTP.out]; exact ⟨hrow5, HB5.out⟩⟩
            case measure => simp [intOf]; omega
        · go_wp2
          go_ret2
          obtain rfl : k = xs.length := by omega
          have e1 : ks.take xs.length = ks := by rw [← HLM.out]; exact List.take_length
          rw [e1, HM.out] at own
          exact ⟨_, rfl, own.1, own.2⟩
set_option maxRecDepth 100000 in
set_option maxHeartbeats 4000000 in
theorem spec_TimesBehind (xs : List Run) (ks : List RunK) (v : Value) (cs : List Int) (u : Value) (limit : Int) (w : World) (hks : xs.map Run.k = ks) (h : RunS w v xs) (hs : Sl (Flat ints) 1 w u cs) (_ : ∀ x ∈ cs, I64 x) (_ : I64 limit) :
    Calls Try.prog 33 #[v, u, .int .i64 limit] w fun e w' => ∃ r, e = .returned (.tuple #[r, .bool (askR ks cs limit)]) ∧ Row w.heap.size 3 1 w' r ((tbV ks cs limit).map ints) ∧ Below w.heap.size w w' := by
  subst hks
  have HW0 := Lib.hid (show Below w.heap.size w (w.alloc (.cells #[] 3)) from below_alloc (Below.refl _ _) _)
  have HAS := Lib.hid (l15Asked_any xs cs limit v u _ (h.below HW0.out) (hs.below (Flat.keeps _) HW0.out))
  by_cases ha : askR (xs.map Run.k) cs limit = true
  rotate_left
  · have ha' : askR (xs.map Run.k) cs limit = false := by simpa using ha
    have HV := Lib.hid (show tbV (xs.map Run.k) cs limit = [] by simp [tbV, ha'])
    rw [ha'] at HAS ⊢
    rw [HV.out]
    clear ha ha' h hs
    go_enter Try.func33, Try.ntmps33
    go_wp2_with (go_at_call 62; refine HAS.out.mono ?_; rintro e w1 ⟨rfl, hb1⟩)
    go_ret2
    exact ⟨_, rfl, Row.below (Row.lit_nil w 3 1 (Nat.le_refl _)) hb1, step_ (below_alloc (Below.refl _ _) _) (Nat.le_refl _) hb1⟩
  obtain ⟨hg, hco, hl1, hl2⟩ := askR_parts ha
  have hlen := codesOk_len hco
  have hxl := goodRs_len hg
  have HST := Lib.hid (fun k (hk : k < xs.length) W (hW : Below w.heap.size w W) => l15Status_any xs[k] cs u limit W ((h.2 _ (List.getElem_mem hk)).below hW) (hs.below (Flat.keeps _) hW) (by omega) (goodRs_ok hg _ (List.getElem_mem hk)))
  have HOK := Lib.hid (goodRs_ok hg)
  have HV := Lib.hid (show tbV (xs.map Run.k) cs limit = tbL cs limit (leastN cs limit (xs.map Run.k)) (xs.map Run.k) by simp [tbV, ha])
  have HLE := Lib.hid (show (xs.filter fun p => okR cs limit p.k).length ≤ 10 from Nat.le_trans (List.length_filter_le _ _) hxl)
  have HOS := Lib.hid (fun W (hW : Below w.heap.size w W) => l15Ok_any xs v cs u limit W (h.below hW) (hs.below (Flat.keeps _) hW) (by omega) HOK.out (by omega))
  have HOY := Lib.hid (show ∀ p ∈ xs.filter fun p => okR cs limit p.k, runOk p.k = true from fun p hp => HOK.out p (List.mem_filter.1 hp).1)
  have HE := Lib.hid (show leastT ((xs.filter fun p => okR cs limit p.k).map Run.k) = leastN cs limit (xs.map Run.k) by rw [← leastN_eq, List.filter_map]; rfl)
  obtain ⟨A, c, rfl, hc, hm, hk⟩ := h.1.open_
  rw [ha] at HAS ⊢
  rw [HV.out]
  have HTS := Lib.hid (fun m => tbL_step cs limit m (xs.map Run.k))
  have HTL := Lib.hid (tbL_len cs limit)
  have HKK := Lib.hid (show ∀ k (h : k < xs.length) (h' : k < (xs.map Run.k).length), (xs.map Run.k)[k] = xs[k].k from fun k _ _ => by simp)
  have HLM := Lib.hid (show (xs.map Run.k).length = xs.length by simp)
  obtain ⟨ks, hks⟩ : ∃ ks, ks = xs.map Run.k := ⟨_, rfl⟩
  rw [← hks] at HE HTS HKK HLM ⊢
  obtain ⟨ys, hys⟩ : ∃ ys, ys = xs.filter fun p => okR cs limit p.k := ⟨_, rfl⟩
  rw [← hys] at HE HLE HOS HOY
  have HLS := Lib.hid (leastT_step (ys.map Run.k))
  have HSM := Lib.hid (show ∀ k, -36001 ≤ leastT ((ys.map Run.k).take k) ∧ leastT ((ys.map Run.k).take k) ≤ 36000 from fun k => leastT_small _ (fun q hq => by
    obtain ⟨p, hp, rfl⟩ := List.mem_map.1 (List.mem_of_mem_take hq)
    exact rtime_small (HOY.out p hp)))
  clear ha hg hco h hs hlen hks HV hys
  go_enter Try.func33, Try.ntmps33
  go_wp2_with (first
    | (go_at_call 62; refine HAS.out.mono ?_; rintro e w1 ⟨rfl, hb1⟩; have hB1 := step_ HW0.out (Nat.le_refl _) hb1)
    | (go_at_call 66; refine (HOS.out _ hB1).mono ?_; rintro e w2 ⟨o, rfl, row, hb2⟩))
  have HO := Lib.hid (show Own w 3 1 w2 (.slice (some ⟨w.heap.size, 0, none⟩) 0 0) [] from (((Own.nil (Below.refl _ _) _ rfl).below hb1).below hb2))
  obtain ⟨D, dc, rfl, hdc, hdcm⟩ := row.parts
  have HSY := Lib.hid (Sl.of_flat (enc := Run.lst) row)
  simp only [List.length_map] at hdc HSY ⊢
  clear hb1 hb2 hB1 row
  obtain ⟨D', dc', hv', _, _, hfk⟩ := HSY.out.open_
  simp only [Value.slice.injEq] at hv'
  obtain ⟨rfl, _, rfl⟩ := hv'
  go_loopw [10, 11] (fun m i wr => ∃ k : Nat, k ≤ ys.length ∧ i = .int .i64 k ∧ m = .int .i64 (leastT ((ys.map Run.k).take k)) ∧ Below w2.heap.size w2 wr)
    (fun _ i _ => ys.length - (intOf i).toNat)
  case atStart => exact ⟨0, Nat.zero_le _, rfl, by simp [leastT], Below.refl _ _⟩
  case round =>
    obtain ⟨k, hkl, rfl, rfl, hb⟩ := hrel
    by_cases hlt : k < ys.length
    · obtain ⟨yb, yo, rfl, yat⟩ := flat_at hfk (by omega)
      have hr := rangeAt_below (yat k hlt) hb
      have hkk : k < (ys.map Run.k).length := by simpa using hlt
      have hst := HLS.out k hkk
      have hke : (ys.map Run.k)[k] = ys[k].k := by simp
      rw [hke] at hst
      have HTK := Lib.hid (fun W => l15Time_ok ys[k] (HOY.out _ (List.getElem_mem hlt)) W)
      obtain ⟨cur, hcur⟩ : ∃ cur, cur = leastT ((ys.map Run.k).take k) := ⟨_, rfl⟩
      rw [← hcur] at hst ⊢
      obtain ⟨x, hx⟩ : ∃ x, x = ys[k] := ⟨_, rfl⟩
      rw [← hx] at hr HTK hst
      have HBB := Lib.hid hb
      have HSTP := Lib.hid hst
      clear hst hcur hx hb hke yat hfk
      go_wp2_with (first
        | ((with_reducible refine at_load_ 53 ?_); refine Run.loadImpl rfl _ rfl yb (yo + k * 7) rfl _ hr ?_)
        | (go_at_call 67; refine (HTK.out _).mono ?_; rintro e w4 ⟨rfl, hb4⟩)
        | (go_at_call 69; refine (l1Least_any _ _ _).mono ?_; rintro e w5 ⟨rfl, rfl⟩))
      go_roundw
      case rel => exact ⟨k + 1, by omega, by go_num, by rw [HSTP.out], step_ HBB.out (Nat.le_refl _) hb4⟩
      case measure => simp [intOf]; omega
    · obtain rfl : k = ys.length := by omega
      have e1 : (ys.map Run.k).take ys.length = ys.map Run.k := List.take_of_length_le (by simp)
      have hsm := HSM.out ys.length
      rw [e1, HE.out] at hsm ⊢
      obtain ⟨m, hm'⟩ : ∃ m, m = leastN cs limit ks := ⟨_, rfl⟩
      rw [← hm'] at hsm ⊢
      obtain ⟨hm1, hm2⟩ := hsm
      have HTS := Lib.hid (HTS.out m)
      have HO := Lib.hid (HO.out.below hb)
      have HM := Lib.hid hm'
      clear e1 hm' hlt hb hfk
      go_wp2
      go_loopw [8, 12] (fun o i wr => ∃ k : Nat, k ≤ xs.length ∧ i = .int .i64 k ∧ Own w 3 1 wr o ((tbL cs limit m (ks.take k)).map ints))
        (fun _ i _ => xs.length - (intOf i).toNat)
      case atStart => exact ⟨0, Nat.zero_le _, rfl, by simpa [tbL] using HO.out⟩
      case round =>
        clear HO
        obtain ⟨k, hkl, rfl, own⟩ := hrel
        by_cases hlt : k < xs.length
        · obtain ⟨b, off, rfl, hat⟩ := flat_at hk (by omega)
          have hr := rangeAt_below (hat k hlt) own.2
          have HAT := Lib.hid (hat k hlt)
          have hkk : k < ks.length := by rw [HLM.out]; exact hlt
          have hst := HTS.out k hkk
          rw [HKK.out k hlt hkk] at hst
          have HLL := Lib.hid (show ((tbL cs limit m (ks.take k)).map ints).length + 1 ≤ 2147483648 by have := HLM.out; rw [List.length_map, HTL.out]; simp; omega)
          have HCALL := Lib.hid (HST.out k hlt _ own.2)
          have hts := rtime_small (HOK.out _ (List.getElem_mem hlt))
          have HTK := Lib.hid (fun W => l15Time_ok xs[k] (HOK.out _ (List.getElem_mem hlt)) W)
          obtain ⟨pl, hpl⟩ : ∃ pl, pl = (tbL cs limit m (ks.take k)).map ints := ⟨_, rfl⟩
          rw [← hpl] at hst HLL own
          obtain ⟨x, hx⟩ : ∃ x, x = xs[k] := ⟨_, rfl⟩
          rw [← hx] at hr HCALL HTK hst hts HAT
          have HO1 := Lib.hid own
          obtain ⟨s, hs⟩ : ∃ s, s = stV x.k cs limit := ⟨_, rfl⟩
          obtain ⟨tk, htk⟩ : ∃ tk, tk = rtime x.k := ⟨_, rfl⟩
          rw [← hs, ← htk] at hst
          rw [← hs] at HCALL
          rw [← htk] at HTK hts
          obtain ⟨ht1, ht2⟩ := hts
          have HSTP := Lib.hid hst
          clear hat hk hst hpl hx hs htk own
          by_cases hz : s = 0
          · subst hz
            rw [if_pos rfl] at HSTP
            go_wp2_with (first
              | ((with_reducible refine at_load_ 53 ?_); refine Run.loadImpl rfl _ rfl b (off + k * 7) rfl _ hr ?_)
              | (go_at_call 63; refine HCALL.out.mono ?_; rintro e w3 ⟨rfl, hb3⟩; have HO3 := Lib.hid (HO1.out.below hb3); have hr3 := rangeAt_below HAT.out HO3.out.2)
              | ((with_reducible refine at_load_ 53 ?_); refine Run.loadImpl rfl _ rfl b (off + k * 7) rfl _ hr3 ?_)
              | (go_at_call 67; refine (HTK.out _).mono ?_; rintro e w4 ⟨rfl, hb4⟩; have HO4 := Lib.hid (HO3.out.below hb4); have HN := Lib.hid (HO4.out.alloc (.cells #[.int .i64 (tk - m)] 3)); have HS := Lib.hid (Src.lit w4 3 (ints (tk - m)) _ rfl rfl (ints_one _)))
              | (at_builtin; refine tyInt.append rfl _ _ rfl w.heap.size _ _ rfl HN.out.1 _ 1 1 [ints (tk - m)] rfl HS.out HLL.out HN.out.2.size ?_; intro o5 w5 hrow5 hg5 _))
            have HB5 := Lib.hid (HN.out.2.grown hg5 HN.out.2.size (fun q hq => (HN.out.1.lt q hq).1))
            go_roundw
            case rel => exact ⟨k + 1, by omega, by go_num, by rw [HSTP.out]; exact ⟨hrow5, HB5.out⟩⟩
            case measure => simp [intOf]; omega
          · have hz' : (s == 0) = false := by simpa using hz
            rw [if_neg hz] at HSTP
            go_wp2_with (first
              | ((with_reducible refine at_load_ 53 ?_); refine Run.loadImpl rfl _ rfl b (off + k * 7) rfl _ hr ?_)
              | (go_at_call 63; refine HCALL.out.mono ?_; rintro e w3 ⟨rfl, hb3⟩; have HO3 := Lib.hid (HO1.out.below hb3); have HN := Lib.hid (HO3.out.alloc (.cells #[.int .i64 (-1)] 3)); have HS := Lib.hid (Src.lit w3 3 (ints (-1)) _ rfl rfl (ints_one _)))
              | (at_builtin; refine tyInt.append rfl _ _ rfl w.heap.size _ _ rfl HN.out.1 _ 1 1 [ints (-1)] rfl HS.out HLL.out HN.out.2.size ?_; intro o5 w5 hrow5 hg5 _))
            have HB5 := Lib.hid (HN.out.2.grown hg5 HN.out.2.size (fun q hq => (HN.out.1.lt q hq).1))
            go_roundw
            case rel => exact ⟨k + 1, by omega, by go_num, by rw [HSTP.out]; exact ⟨hrow5, HB5.out⟩⟩
            case measure => simp [intOf]; omega
        · go_wp2
          go_ret2
          obtain rfl : k = xs.length := by omega
          have e1 : ks.take xs.length = ks := by rw [← HLM.out]; exact List.take_length
          rw [e1, HM.out] at own
          exact ⟨_, rfl, own.1, own.2⟩
end Go.Proofs.Ytojpklpfnmjikaa
