/- The walks of finishers and of the program's PlacingOf. No condition. -/
import Derived.Test.YtabgmbmaakglkaaHtS
import Derived.Test.YtabgmbmaakglkaaHtF
namespace Go.Proofs.Ytabgmbmaakglkaa
open Go Go.RowKit

/-- The finishers among the first k, in the heat's order. -/
def rawTo (h : HK) (k : Nat) : List Fns := ((List.range k).filter (fin1 h)).map (fnAt h)
theorem rawTo_zero (h : HK) : rawTo h 0 = [] := rfl
theorem rawTo_yes {h : HK} {k : Nat} (hf : fin1 h k = true) : rawTo h (k + 1) = rawTo h k ++ [fnAt h k] := by
  unfold rawTo
  rw [List.range_succ, List.filter_append]
  simp [hf]
theorem rawTo_no {h : HK} {k : Nat} (hf : fin1 h k = false) : rawTo h (k + 1) = rawTo h k := by
  unfold rawTo
  rw [List.range_succ, List.filter_append]
  simp [hf]
theorem rawTo_len (h : HK) (k : Nat) : (rawTo h k).length ≤ k := by
  unfold rawTo
  rw [List.length_map]
  have := List.length_filter_le (fin1 h) (List.range k)
  simpa using this
def plF (l : List Fns) (i : Nat) : Fns := { l.getD i default with place := (i : Int) }
theorem plF_all (l : List Fns) : (List.range l.length).map (fun i => Fns.I (plF l i)) = (placed l).map Fns.I := by
  apply List.ext_getElem (by simp [placed])
  intro i h1 h2
  simp at h1
  simp [placed, plF, h1]

set_option maxRecDepth 100000 in
set_option maxHeartbeats 4000000 in
theorem finishers_any (p : Ht) (w : World) (h : p.In w) (hg : goodH p.k = true) :
    Calls Try.prog 55 #[p.val] w fun e w' => ∃ r, e = .returned r ∧ Row w.heap.size 82 3 w' r ((finN p.k).map Fns.I) ∧ Below w.heap.size w w' := by
  have hpl := h.len
  have hgg := goodH_iff.1 hg
  obtain ⟨⟨rs, ts⟩, A, n, c, B, m, d⟩ := p
  simp only at hpl
  obtain ⟨rfl, rfl⟩ := hpl
  have hW : Below w.heap.size w (w.alloc (.cells #[.slice A rs.length c, .slice B ts.length d] 28)) := below_alloc (Below.refl _ _) _
  have hcn := Ht.cellsNew w ⟨⟨rs, ts⟩, A, rs.length, c, B, ts.length, d⟩ 28
  simp only at hcn
  have h2 := h.below hW
  have hr : Sl (Flat ints) 1 _ (.slice A rs.length c) rs := h2.1
  have ht : Sl (Flat ints) 1 _ (.slice B ts.length d) ts := h2.2
  have HW := Lib.hid hW
  show Calls Try.prog 55 #[.agg #[.slice A rs.length c, .slice B ts.length d]] w fun e w' => ∃ r, e = .returned r ∧ Row w.heap.size 82 3 w' r ((finN ⟨rs, ts⟩).map Fns.I) ∧ Below w.heap.size w w'
  clear h h2 hW hg
  obtain ⟨A', c', hv, hcA, hmA, hkA⟩ := hr.open_
  simp only [Value.slice.injEq] at hv
  obtain ⟨rfl, _, rfl⟩ := hv
  obtain ⟨B', d', hv, hcB, hmB, hkB⟩ := ht.open_
  simp only [Value.slice.injEq] at hv
  obtain ⟨rfl, _, rfl⟩ := hv
  clear ht hr
  have HTM := Lib.hid (fun k (hk : k < ts.length) => tmAt_eq (h := ⟨rs, ts⟩) hk)
  have HRM := Lib.hid (fun k (hk : k < rs.length) => rnAt_eq (h := ⟨rs, ts⟩) hk)
  have E2 := Lib.hid (show ts.length = rs.length from hgg.2.1)
  have HRL := Lib.hid (show rs.length ≤ 6 from hgg.1.2)
  have HSORT := Lib.hid (fun l => sort_finN (h := ⟨rs, ts⟩) hgg (l := l))
  have HTL := Lib.hid (show ts.length ≤ 6 by have := E2.out; have := HRL.out; omega)
  have HALL := Lib.hid (show rawTo ⟨rs, ts⟩ ts.length = (rawI ⟨rs, ts⟩).map (fnAt ⟨rs, ts⟩) by rw [E2.out]; rfl)
  clear hgg
  have hc0 := hcn ⟨_, Below.refl _ _⟩
  simp only at hc0
  go_enter Try.func55, Try.ntmps55
  go_wp2_with fail
  have HLE := Lib.hid (show w.heap.size ≤ (w.alloc (.cells #[.slice A rs.length c, .slice B ts.length d] 28)).heap.size by simp)
  have HSZ := Lib.hid (show (w.alloc (.cells #[.slice A rs.length c, .slice B ts.length d] 28)).heap.size = w.heap.size + 1 by simp)
  generalize w.alloc (.cells #[.slice A rs.length c, .slice B ts.length d] 28) = W at *
  have HO0 := Lib.hid (show Own W 82 3 (W.alloc (.cells #[] 82)) (.slice (some ⟨w.heap.size + 1, 0, none⟩) 0 0) [] from Own.nil (Below.refl _ _) _ HSZ.out)
  go_loopw [3, 11] (fun o i wr => ∃ k : Nat, k ≤ ts.length ∧ i = .int .i64 k ∧ Own W 82 3 wr o ((rawTo ⟨rs, ts⟩ k).map Fns.I))
    (fun _ i _ => ts.length - (intOf i).toNat)
  case atStart => exact ⟨0, Nat.zero_le _, rfl, HO0.out⟩
  case round =>
    obtain ⟨k, hkl, rfl, own⟩ := hrel
    clear HO0
    by_cases hlt : k < ts.length
    · have hlr : k < rs.length := by have := E2.out; omega
      have hc1 := hcn ⟨wr, own.b⟩
      simp only at hc1
      obtain ⟨b, ob, rfl, hatB⟩ := flat_at hkB (by omega)
      obtain ⟨a, oa, rfl, hatA⟩ := flat_at hkA (by omega)
      have hct := int_at (rangeAt_below (hatB k hlt) own.b)
      have hcr := int_at (rangeAt_below (hatA k hlr) own.b)
      rw [Nat.mul_one] at hct hcr
      have hf : fin1 ⟨rs, ts⟩ k = decide (0 < ts[k]) := by unfold fin1; rw [HTM.out k hlt]
      have HFN := Lib.hid (show fnAt ⟨rs, ts⟩ k = ⟨0, ts[k], rs[k]⟩ by unfold fnAt; rw [HTM.out k hlt, HRM.out k hlr])
      obtain ⟨t, htt⟩ : ∃ t, t = ts[k] := ⟨_, rfl⟩
      obtain ⟨r, hrr⟩ : ∃ r, r = rs[k] := ⟨_, rfl⟩
      rw [← htt] at hct hf HFN
      rw [← hrr] at hcr HFN
      have HF := Lib.hid hf
      have HL := Lib.hid (rawTo_len ⟨rs, ts⟩ k)
      clear hatA hatB hkA hkB htt hrr hf
      by_cases h0 : 0 < t
      · have HS := Lib.hid (show rawTo ⟨rs, ts⟩ (k + 1) = rawTo ⟨rs, ts⟩ k ++ [⟨0, t, r⟩] by rw [rawTo_yes (by rw [HF.out]; simpa using h0), HFN.out])
        have HO1 := Lib.hid (own.alloc (.cells #[.int .i64 r, .int .i64 t, .int .i64 0] 82))
        have HSR := Lib.hid (show Src (wr.alloc (.cells #[.int .i64 r, .int .i64 t, .int .i64 0] 82)) 3 (some ⟨wr.heap.size, 0, none⟩) 1 [Fns.I ⟨0, t, r⟩] from Src.lit wr 82 (Fns.I ⟨0, t, r⟩) wr.heap.size rfl rfl (Fns.I_one _))
        have HLL := Lib.hid (show ((rawTo ⟨rs, ts⟩ k).map Fns.I).length + 1 ≤ 2147483648 by rw [List.length_map]; have := HL.out; have := HTL.out; omega)
        clear own
        go_wp2_with (at_builtin; refine tyFin.append rfl _ _ rfl W.heap.size _ _ rfl HO1.out.1 _ 1 1 [Fns.I ⟨0, t, r⟩] rfl HSR.out HLL.out HO1.out.2.size ?_; intro o5 w5 hrow5 hg5 hat5)
        have HB5 := Lib.hid (HO1.out.2.grown hg5 HO1.out.2.size (fun q hq => (HO1.out.1.lt q hq).1))
        go_roundw
        case rel => exact ⟨k + 1, by omega, by go_num, by rw [HS.out, List.map_append]; exact ⟨hrow5, HB5.out⟩⟩
        case measure => simp [intOf]; omega
      · have HS := Lib.hid (show rawTo ⟨rs, ts⟩ (k + 1) = rawTo ⟨rs, ts⟩ k from rawTo_no (by rw [HF.out]; simpa using h0))
        go_wp2
        go_roundw
        case rel => exact ⟨k + 1, by omega, by go_num, by rw [HS.out]; exact own⟩
        case measure => simp [intOf]; omega
    · obtain rfl : k = ts.length := by omega
      have hall := HALL.out
      rw [hall] at own
      have HB1 := Lib.hid own.2
      have hsz : ((rawI ⟨rs, ts⟩).map (fnAt ⟨rs, ts⟩)).length ≤ 2147483648 := by rw [List.length_map]; have h7 := rawI_len ⟨rs, ts⟩; have h8 := HRL.out; simp only at h7; omega
      have HCALL := Lib.hid (sortFin_any cfT swoT 84 (enters_of Try.func84 (by kernel_rfl) rfl) (fun W x y => byTime_any x y W) W.heap.size _ _ wr own.1 hsz)
      clear own hall hsz hc0 hkA hkB
      go_wp2_with fail
      refine HCALL.out.mono ?_
      rintro e w1 ⟨rfl, ys, hp, hs, row1, hg1⟩
      have hys := HSORT.out ys hp (hs.imp fun h => by rw [← cfT_lt]; exact h)
      have hBB := HB1.out.grown hg1 HB1.out.size (fun q hq => by have := (row1.lt q hq).1; omega)
      obtain ⟨A1, c1, rfl, hc1, hm1⟩ := row1.parts
      simp only [List.length_map] at row1 hc1 ⊢
      have HYS := Lib.hid hys
      have HYL := Lib.hid (show ys.length ≤ 6 by rw [hys, List.length_map]; have h7 := ordI_len ⟨rs, ts⟩; have h8 := HRL.out; simp only at h7; omega)
      have HR0 := Lib.hid (show Row W.heap.size 82 3 w1 (.slice A1 ys.length c1) (turned (fun i => Fns.I (plF ys i)) (ys.map Fns.I) 0) by rw [turned_zero]; exact row1)
      have HBB := Lib.hid hBB
      clear hys hp hs row1 hg1 hBB HCALL
      go_wp2
      go_loopw [33] (fun i wr => ∃ k : Nat, k ≤ ys.length ∧ i = .int .i64 k ∧ Row W.heap.size 82 3 wr (.slice A1 ys.length c1) (turned (fun i => Fns.I (plF ys i)) (ys.map Fns.I) k) ∧ Below W.heap.size W wr)
        (fun i _ => ys.length - (intOf i).toNat)
      case atStart => exact ⟨0, Nat.zero_le _, rfl, HR0.out, HBB.out⟩
      case round =>
        clear HR0 HBB
        obtain ⟨k, hkl, rfl, hrow, hb⟩ := hrel
        by_cases hlt : k < ys.length
        · have htl := turned_len (f := fun i => Fns.I (plF ys i)) (ys := ys.map Fns.I) (j := k) (by rw [List.length_map]; omega)
          rw [List.length_map] at htl
          obtain ⟨g, cap, he, hbg, hg, hcap⟩ := hrow.form (by rw [htl]; omega)
          simp only [Value.slice.injEq] at he
          obtain ⟨rfl, hq, rfl⟩ := he
          clear hq hcap
          have hkt : k < (turned (fun i => Fns.I (plF ys i)) (ys.map Fns.I) k).length := by rw [htl]; exact hlt
          have HSET := Lib.hid (show (turned (fun i => Fns.I (plF ys i)) (ys.map Fns.I) k).set k ((turned (fun i => Fns.I (plF ys i)) (ys.map Fns.I) k)[k].set 2 (.int .i64 (k : Int))) = turned (fun i => Fns.I (plF ys i)) (ys.map Fns.I) (k + 1) by
            rw [← turned_set _ _ _ (by rw [List.length_map]; exact hlt), turned_at (by rw [List.length_map]; exact hlt)]
            congr 1
            simp [plF, Fns.I, hlt])
          clear htl
          go_wp2_with (refine put1_ (e := 82) (sz := 3) rfl _ _ _ rfl infoInt W.heap.size g ys.length c1 k 2 _ _ _ hrow hkt (by omega) rfl rfl rfl ?_; intro w3 hrow3 hg3)
          rw [HSET.out] at hrow3
          have HB3 := Lib.hid (hb.grown hg3 hb.size (fun q hq => by cases hq; exact hbg))
          go_roundw
          case rel => exact ⟨k + 1, by omega, by go_num, hrow3, HB3.out⟩
          case measure => simp [intOf]; omega
        · go_wp2
          go_ret
          obtain rfl : k = ys.length := by omega
          have h5 := turned_all (fun i => Fns.I (plF ys i)) (ys.map Fns.I)
          rw [List.length_map, plF_all, HYS.out] at h5
          rw [HYS.out, List.length_map] at hrow
          rw [List.length_map] at h5
          rw [h5] at hrow
          refine ⟨_, rfl, ?_, step_ HW.out (Nat.le_refl _) hb⟩
          rw [HYS.out, List.length_map]
          exact hrow.mono HLE.out
end Go.Proofs.Ytabgmbmaakglkaa
