/- The walks of StatusCounts and TimesBehind. No condition. -/
import Derived.Test.YtojpklpfnmjikaaReQ
import Derived.Test.YtojpklpfnmjikaaRnM
namespace Go.Proofs.Ytojpklpfnmjikaa
open Go Go.RowKit

/-- A row of numbers, one of them one more. -/
theorem bump_row {base : Nat} {w : World} {v : Value} {l : List Int} {s : Nat} {y : Int} (hs : s < (l.map ints).length) (hy : y = l.getD s 0 + 1) (h : Row base 3 1 w v ((l.map ints).set s ((l.map ints)[s].set 0 (.int .i64 y)))) : Row base 3 1 w v ((bump l s).map ints) := by
  unfold bump
  rw [List.map_set]
  refine Row.set_eq h ?_
  subst hy
  simp [ints]

set_option maxRecDepth 100000 in
set_option maxHeartbeats 4000000 in
theorem impl_StatusCounts (xs : List Run) (ks : List RunK) (v : Value) (cs : List Int) (u : Value) (limit : Int) (w : World) (hks : xs.map Run.k = ks) (h : RunS w v xs) (hs : Sl (Flat ints) 1 w u cs) (_ : ∀ x ∈ cs, I64 x) (_ : I64 limit) :
    Calls Try.prog 30 #[v, u, .int .i64 limit] w fun e w' => ∃ r, e = .returned (.tuple #[r, .bool (askR ks cs limit)]) ∧ Row w.heap.size 3 1 w' r ((cntV ks cs limit).map ints) ∧ Below w.heap.size w w' := by
  subst hks
  have HAS := Lib.hid (canJudge_any xs cs limit v u w h hs)
  by_cases ha : askR (xs.map Run.k) cs limit = true
  rotate_left
  · have ha' : askR (xs.map Run.k) cs limit = false := by simpa using ha
    have HV := Lib.hid (show cntV (xs.map Run.k) cs limit = [] by simp [cntV, ha'])
    rw [ha'] at HAS ⊢
    rw [HV.out]
    clear ha ha' h hs
    go_enter Try.func30, Try.ntmps30
    go_wp2_with (go_at_call 64; refine HAS.out.mono ?_; rintro e w1 ⟨rfl, hb1⟩)
    go_ret2
    exact ⟨_, rfl, Row.nil _ _ _ _, hb1⟩
  obtain ⟨hg, hco, hl1, hl2⟩ := askR_parts ha
  have hlen := codesOk_len hco
  have hxl := goodRs_len hg
  have HST := Lib.hid (fun k (hk : k < xs.length) W (hW : Below w.heap.size w W) => statusOf_any xs[k] cs u limit W ((h.2 _ (List.getElem_mem hk)).below hW) (hs.below (Flat.keeps _) hW) (by omega) (goodRs_ok hg _ (List.getElem_mem hk)))
  have HV := Lib.hid (show cntV (xs.map Run.k) cs limit = cntL cs limit (xs.map Run.k) by simp [cntV, ha])
  obtain ⟨A, c, rfl, hc, hm, hk⟩ := h.1.open_
  rw [ha] at HAS ⊢
  rw [HV.out]
  have HC := Lib.hid (cntL_step cs limit (xs.map Run.k))
  have HI := Lib.hid (cntL_inv cs limit (xs.map Run.k))
  have HKK := Lib.hid (show ∀ k (h : k < xs.length) (h' : k < (xs.map Run.k).length), (xs.map Run.k)[k] = xs[k].k from fun k _ _ => by simp)
  have HLM := Lib.hid (show (xs.map Run.k).length = xs.length by simp)
  obtain ⟨ks, hks⟩ : ∃ ks, ks = xs.map Run.k := ⟨_, rfl⟩
  rw [← hks] at HC HI HKK HLM ⊢
  clear ha hg hco h hs hlen hks HV
  go_enter Try.func30, Try.ntmps30
  go_wp2_with (first
    | (go_at_call 64; refine HAS.out.mono ?_; rintro e w1 ⟨rfl, hb1⟩)
    | (at_make; refine tyInt.make rfl _ _ rfl w1.heap.size 6 _ _ rfl rfl rfl rfl (by omega) (Nat.le_refl _) ?_; intro w2 hrow2 hb2 hz2))
  have HOW := Lib.hid (show Row w.heap.size 3 1 w2 (.slice (some ⟨w1.heap.size, 0, none⟩) 6 6) ((cntL cs limit (ks.take 0)).map ints) from (by simpa [cntL, ints] using hrow2.mono hb1.size))
  have HBW := Lib.hid (step_ hb1 (Nat.le_refl _) hb2)
  obtain ⟨g, hgg⟩ : ∃ g, w1.heap.size = g := ⟨_, rfl⟩
  have HG := Lib.hid (show w.heap.size ≤ g by rw [← hgg]; exact hb1.size)
  rw [hgg] at HOW ⊢
  clear hrow2 hgg hz2
  go_loopw [19] (fun i wr => ∃ k : Nat, k ≤ xs.length ∧ i = .int .i64 k ∧ Row w.heap.size 3 1 wr (.slice (some ⟨g, 0, none⟩) 6 6) ((cntL cs limit (ks.take k)).map ints) ∧ Below w.heap.size w wr)
    (fun i _ => xs.length - (intOf i).toNat)
  case atStart => exact ⟨0, Nat.zero_le _, rfl, HOW.out, HBW.out⟩
  case round =>
    clear hb1 hb2
    obtain ⟨k, hkl, rfl, hrow, hb⟩ := hrel
    by_cases hlt : k < xs.length
    · obtain ⟨b, off, rfl, hat⟩ := flat_at hk (by omega)
      have hr := rangeAt_below (hat k hlt) hb
      have hkk : k < ks.length := by rw [HLM.out]; exact hlt
      have hst := HC.out k hkk
      obtain ⟨h6, hsm⟩ := HI.out k (by omega)
      have hbd := hsm (stV ks[k] cs limit).toNat
      have hsr := stV_range ks[k] cs limit
      have HCALL := Lib.hid (HST.out k hlt)
      have hx := HKK.out k hlt hkk
      rw [← hx] at HCALL
      obtain ⟨cur, hcur⟩ : ∃ cur, cur = cntL cs limit (ks.take k) := ⟨_, rfl⟩
      rw [← hcur] at hst h6 hbd hrow
      obtain ⟨s, hs⟩ : ∃ s : Nat, stV ks[k] cs limit = s := ⟨(stV ks[k] cs limit).toNat, by omega⟩
      rw [hs] at hst hbd hsr HCALL
      simp only [Int.toNat_natCast] at hst hbd
      have hs5 : s ≤ 5 := by omega
      have hsl : s < (cur.map ints).length := by simp; omega
      have hcell := hrow.cell (k := s) (j := 0) hsl (by omega)
      have hce : w.heap.size = w.heap.size := rfl
      have HGD := Lib.hid (show (cur.map ints)[s][0]? = some (.int .i64 (cur.getD s 0)) by
        have : s < cur.length := by omega
        simp [ints, List.getD_eq_getElem?_getD, this])
      rw [HGD.out] at hcell
      obtain ⟨y, hy⟩ : ∃ y, y = cur.getD s 0 := ⟨_, rfl⟩
      rw [← hy] at hcell hbd
      have HY := Lib.hid hy
      simp only [Nat.mul_one, Nat.add_zero] at hcell
      have HR := Lib.hid hrow
      have HB := Lib.hid hb
      have HHST := Lib.hid hst
      have hy2 : y ≤ 10 := by omega
      have hy1 := hbd.1
      have HSL := Lib.hid hsl
      obtain ⟨x, hxx⟩ : ∃ x, x = xs[k] := ⟨_, rfl⟩
      rw [← hxx] at hr HCALL
      have hrn := Run.rangeNew wr x 53
      have HW1 := Lib.hid (below_alloc hb (.cells #[.int .i64 x.runner, .bool x.started, .bool x.out, .int .i64 x.card.k.number, .int .i64 x.card.k.start, .int .i64 x.card.k.finish, .slice x.card.a x.card.n x.card.c] 53))
      have HRA := Lib.hid (hrow.alloc (.cells #[.int .i64 x.runner, .bool x.started, .bool x.out, .int .i64 x.card.k.number, .int .i64 x.card.k.start, .int .i64 x.card.k.finish, .slice x.card.a x.card.n x.card.c] 53))
      clear hat hk hst hcur hs hx hxx h6 hsm hbd hsr hy hrow hb hce
      go_wp2_with (first
        | ((with_reducible refine at_load_ 53 ?_); refine Run.loadImpl rfl _ rfl b (off + k * 7) rfl _ hr ?_)
        | ((with_reducible refine at_load_ 53 ?_); refine Run.loadImpl rfl _ rfl wr.heap.size 0 rfl _ hrn ?_)
        | (go_at_call 65; refine (HCALL.out _ HW1.out).mono ?_; rintro e w3 ⟨rfl, hb3⟩; have hrow3 := HRA.out.below hb3; have hc3 := hrow3.cell (k := s) (j := 0) HSL.out (by omega); rw [HGD.out, ← HY.out] at hc3; simp only [Nat.mul_one, Nat.add_zero] at hc3)
        | ((with_reducible refine at_store_ (w := w3) 3 ?_); refine put1_ (e := 3) (sz := 1) rfl _ _ _ rfl infoInt w.heap.size g 6 6 s 0 _ _ _ hrow3 HSL.out (by omega) rfl (by omega) rfl ?_; intro w4 hrow4 hg4))
      have HR4 := Lib.hid (bump_row HSL.out (by rw [HY.out]) hrow4)
      have HB4 := Lib.hid ((step_ HW1.out (Nat.le_refl _) hb3).grown hg4 (Nat.le_trans HW1.out.size hb3.size) (fun q hq => by have := HG.out; simp at hq; omega))
      go_roundw
      case rel => exact ⟨k + 1, by omega, by go_num, by rw [HHST.out]; exact HR4.out, HB4.out⟩
      case measure => simp [intOf]; omega
    · go_wp2
      go_ret2
      obtain rfl : k = xs.length := by omega
      have e1 : ks.take xs.length = ks := by rw [← HLM.out]; exact List.take_length
      rw [e1] at hrow
      exact ⟨_, rfl, hrow, hb⟩

set_option maxRecDepth 100000 in
set_option maxHeartbeats 4000000 in
theorem spec_StatusCounts (xs : List Run) (ks : List RunK) (v : Value) (cs : List Int) (u : Value) (limit : Int) (w : World) (hks : xs.map Run.k = ks) (h : RunS w v xs) (hs : Sl (Flat ints) 1 w u cs) (_ : ∀ x ∈ cs, I64 x) (_ : I64 limit) :
    Calls Try.prog 29 #[v, u, .int .i64 limit] w fun e w' => ∃ r, e = .returned (.tuple #[r, .bool (askR ks cs limit)]) ∧ Row w.heap.size 3 1 w' r ((cntV ks cs limit).map ints) ∧ Below w.heap.size w w' := by
  subst hks
  have HAS := Lib.hid (l15Asked_any xs cs limit v u w h hs)
  by_cases ha : askR (xs.map Run.k) cs limit = true
  rotate_left
  · have ha' : askR (xs.map Run.k) cs limit = false := by simpa using ha
    have HV := Lib.hid (show cntV (xs.map Run.k) cs limit = [] by simp [cntV, ha'])
    rw [ha'] at HAS ⊢
    rw [HV.out]
    clear ha ha' h hs
    go_enter Try.func29, Try.ntmps29
    go_wp2_with (go_at_call 62; refine HAS.out.mono ?_; rintro e w1 ⟨rfl, hb1⟩)
    go_ret2
    exact ⟨_, rfl, (Row.lit_nil w1 3 1 hb1.size), below_alloc hb1 _⟩
  obtain ⟨hg, hco, hl1, hl2⟩ := askR_parts ha
  have hlen := codesOk_len hco
  have hxl := goodRs_len hg
  have HST := Lib.hid (fun k (hk : k < xs.length) W (hW : Below w.heap.size w W) => l15Status_any xs[k] cs u limit W ((h.2 _ (List.getElem_mem hk)).below hW) (hs.below (Flat.keeps _) hW) (by omega) (goodRs_ok hg _ (List.getElem_mem hk)))
  have HV := Lib.hid (show cntV (xs.map Run.k) cs limit = cntL cs limit (xs.map Run.k) by simp [cntV, ha])
  obtain ⟨A, c, rfl, hc, hm, hk⟩ := h.1.open_
  rw [ha] at HAS ⊢
  rw [HV.out]
  have HC := Lib.hid (cntL_step cs limit (xs.map Run.k))
  have HI := Lib.hid (cntL_inv cs limit (xs.map Run.k))
  have HKK := Lib.hid (show ∀ k (h : k < xs.length) (h' : k < (xs.map Run.k).length), (xs.map Run.k)[k] = xs[k].k from fun k _ _ => by simp)
  have HLM := Lib.hid (show (xs.map Run.k).length = xs.length by simp)
  obtain ⟨ks, hks⟩ : ∃ ks, ks = xs.map Run.k := ⟨_, rfl⟩
  rw [← hks] at HC HI HKK HLM ⊢
  clear ha hg hco h hs hlen hks HV
  go_enter Try.func29, Try.ntmps29
  go_wp2_with (first
    | (go_at_call 62; refine HAS.out.mono ?_; rintro e w1 ⟨rfl, hb1⟩)
    | (at_make; refine tyInt.make rfl _ _ rfl w1.heap.size 6 _ _ rfl rfl rfl rfl (by omega) (Nat.le_refl _) ?_; intro w2 hrow2 hb2 hz2))
  have HOW := Lib.hid (show Row w.heap.size 3 1 w2 (.slice (some ⟨w1.heap.size, 0, none⟩) 6 6) ((cntL cs limit (ks.take 0)).map ints) from (by simpa [cntL, ints] using hrow2.mono hb1.size))
  have HBW := Lib.hid (step_ hb1 (Nat.le_refl _) hb2)
  obtain ⟨g, hgg⟩ : ∃ g, w1.heap.size = g := ⟨_, rfl⟩
  have HG := Lib.hid (show w.heap.size ≤ g by rw [← hgg]; exact hb1.size)
  rw [hgg] at HOW ⊢
  clear hrow2 hgg hz2
  go_loopw [9] (fun i wr => ∃ k : Nat, k ≤ xs.length ∧ i = .int .i64 k ∧ Row w.heap.size 3 1 wr (.slice (some ⟨g, 0, none⟩) 6 6) ((cntL cs limit (ks.take k)).map ints) ∧ Below w.heap.size w wr)
    (fun i _ => xs.length - (intOf i).toNat)
  case atStart => exact ⟨0, Nat.zero_le _, rfl, HOW.out, HBW.out⟩
  case round =>
    clear hb1 hb2
    obtain ⟨k, hkl, rfl, hrow, hb⟩ := hrel
    by_cases hlt : k < xs.length
    · obtain ⟨b, off, rfl, hat⟩ := flat_at hk (by omega)
      have hr := rangeAt_below (hat k hlt) hb
      have hkk : k < ks.length := by rw [HLM.out]; exact hlt
      have hst := HC.out k hkk
      obtain ⟨h6, hsm⟩ := HI.out k (by omega)
      have hbd := hsm (stV ks[k] cs limit).toNat
      have hsr := stV_range ks[k] cs limit
      have HCALL := Lib.hid (HST.out k hlt)
      have hx := HKK.out k hlt hkk
      rw [← hx] at HCALL
      obtain ⟨cur, hcur⟩ : ∃ cur, cur = cntL cs limit (ks.take k) := ⟨_, rfl⟩
      rw [← hcur] at hst h6 hbd hrow
      obtain ⟨s, hs⟩ : ∃ s : Nat, stV ks[k] cs limit = s := ⟨(stV ks[k] cs limit).toNat, by omega⟩
      rw [hs] at hst hbd hsr HCALL
      simp only [Int.toNat_natCast] at hst hbd
      have hs5 : s ≤ 5 := by omega
      have hsl : s < (cur.map ints).length := by simp; omega
      have hcell := hrow.cell (k := s) (j := 0) hsl (by omega)
      have hce : w.heap.size = w.heap.size := rfl
      have HGD := Lib.hid (show (cur.map ints)[s][0]? = some (.int .i64 (cur.getD s 0)) by
        have : s < cur.length := by omega
        simp [ints, List.getD_eq_getElem?_getD, this])
      rw [HGD.out] at hcell
      obtain ⟨y, hy⟩ : ∃ y, y = cur.getD s 0 := ⟨_, rfl⟩
      rw [← hy] at hcell hbd
      have HY := Lib.hid hy
      simp only [Nat.mul_one, Nat.add_zero] at hcell
      have HR := Lib.hid hrow
      have HB := Lib.hid hb
      have HHST := Lib.hid hst
      have hy2 : y ≤ 10 := by omega
      have hy1 := hbd.1
      have HSL := Lib.hid hsl
      obtain ⟨x, hxx⟩ : ∃ x, x = xs[k] := ⟨_, rfl⟩
      rw [← hxx] at hr HCALL
      have HW1 := Lib.hid hb
      have HRA := Lib.hid hrow
      clear hat hk hst hcur hs hx hxx h6 hsm hbd hsr hy hrow hb hce
      go_wp2_with (first
        | ((with_reducible refine at_load_ 53 ?_); refine Run.loadImpl rfl _ rfl b (off + k * 7) rfl _ hr ?_)
        | (go_at_call 63; refine (HCALL.out _ HW1.out).mono ?_; rintro e w3 ⟨rfl, hb3⟩; have hrow3 := HRA.out.below hb3; have hc3 := hrow3.cell (k := s) (j := 0) HSL.out (by omega); rw [HGD.out, ← HY.out] at hc3; simp only [Nat.mul_one, Nat.add_zero] at hc3)
        | ((with_reducible refine at_store_ (w := w3) 3 ?_); refine put1_ (e := 3) (sz := 1) rfl _ _ _ rfl infoInt w.heap.size g 6 6 s 0 _ _ _ hrow3 HSL.out (by omega) rfl (by omega) rfl ?_; intro w4 hrow4 hg4))
      have HR4 := Lib.hid (bump_row HSL.out (by rw [HY.out]) hrow4)
      have HB4 := Lib.hid ((step_ HW1.out (Nat.le_refl _) hb3).grown hg4 (Nat.le_trans HW1.out.size hb3.size) (fun q hq => by have := HG.out; simp at hq; omega))
      go_roundw
      case rel => exact ⟨k + 1, by omega, by go_num, by rw [HHST.out]; exact HR4.out, HB4.out⟩
      case measure => simp [intOf]; omega
    · go_wp2
      go_ret2
      obtain rfl : k = xs.length := by omega
      have e1 : ks.take xs.length = ks := by rw [← HLM.out]; exact List.take_length
      rw [e1] at hrow
      exact ⟨_, rfl, hrow, hb⟩

end Go.Proofs.Ytojpklpfnmjikaa
