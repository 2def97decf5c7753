/- The law's marks on a copy of passings: a frame. No condition. -/
import Derived.Test.YtbeonigmcbipeaaPasM
import Derived.Test.YtbeonigmcbipeaaFrame
namespace Go.Proofs.Ytbeonigmcbipeaa
open Go Go.RowKit

/-- The blocks of a copy. -/
def PasBlk (v : Value) (zs : List Pas) (k : Nat) : Prop := v.ownBlock = some k ∨ ∃ z ∈ zs, z.sv.ownBlock = some k
theorem PasR.lt {base : Nat} {w : World} {v : Value} {zs : List Pas} (h : PasR base w v zs) : ∀ k, PasBlk v zs k → base ≤ k ∧ k < w.heap.size := by
  rintro k (hk | ⟨z, hz, hk⟩)
  · exact h.1.lt k hk
  · exact Go.Proofs.Ytbeonigmcbipeaa.Row.lt (h.2.1 z hz).1 k hk
theorem lens_ {xs zs : List Pas} (hk : zs.map Pas.k = xs.map Pas.k) (h : xs.length ≤ 1048576 ∧ ∀ p ∈ xs, p.k.splits.length ≤ 1048576) : zs.length ≤ 1048576 ∧ ∀ z ∈ zs, z.k.splits.length ≤ 1048576 := by
  have hl : zs.length = xs.length := by simpa using congrArg List.length hk
  refine ⟨by omega, fun z hz => ?_⟩
  have : z.k ∈ xs.map Pas.k := hk ▸ List.mem_map.2 ⟨z, hz, rfl⟩
  obtain ⟨p, hp, he⟩ := List.mem_map.1 this
  rw [← he]
  exact h.2 p hp
/-- What a row still holds while marks are laid: each element's second cell is as it was. -/
def HeadsOf (ys : List (List Value)) (zs : List Pas) : Prop := ys.length = zs.length ∧ ∀ j (h : j < ys.length) (h' : j < zs.length), ∃ r : Int, ys[j] = [.int .i64 r, zs[j].sv]
theorem HeadsOf.set {ys : List (List Value)} {zs : List Pas} (h : HeadsOf ys zs) {j : Nat} (hj : j < ys.length) (r : Int) : HeadsOf (ys.set j (ys[j].set 0 (.int .i64 r))) zs := by
  refine ⟨by simpa using h.1, fun i hi h' => ?_⟩
  have hi' : i < ys.length := by simpa using hi
  by_cases e : j = i
  · subst e
    obtain ⟨r0, hr0⟩ := h.2 j hj h'
    refine ⟨r, ?_⟩
    rw [List.getElem_set_self, hr0]
    rfl
  · rw [List.getElem_set_ne e]
    exact h.2 i hi' h'

set_option maxHeartbeats 2000000 in
theorem markPassingS_any (base : Nat) (v : Value) (zs : List Pas) (k0 : Int) (w : World) (h : PasR base w v zs) (h0 : 0 ≤ k0) (h1 : k0 ≤ 1048577) (hl : zs.length ≤ 1048576 ∧ ∀ z ∈ zs, z.k.splits.length ≤ 1048576) :
    Calls Try.prog 23 #[v, .int .i64 k0] w fun e w' => ∃ m : Int, e = .returned (.int .i64 m) ∧ 0 ≤ m ∧ m ≤ 4611686018427387904 ∧ KeptOff (PasBlk v zs) w w' := by
  have HA := Lib.hid h.2.2
  have HZ := Lib.hid h.2.1
  have HLZ := Lib.hid hl.2
  obtain ⟨hl1, _⟩ := hl
  obtain ⟨ys, hys⟩ : ∃ ys, ys = zs.map Pas.lst := ⟨_, rfl⟩
  have hyl : ys.length = zs.length := by rw [hys]; simp
  have HH := Lib.hid (show HeadsOf ys zs from ⟨hyl, fun j hj hj' => ⟨zs[j].k.runner, by simp only [hys, List.getElem_map]; rfl⟩⟩)
  have hrow := h.1
  rw [← hys] at hrow
  clear h hys
  by_cases hn : 0 < zs.length
  · obtain ⟨g, cap, rfl, hb, hgl, hcap⟩ := hrow.form (by omega)
    have hcm : cap ≤ 9223372036854775807 := by
      obtain ⟨_, _, h1, _, h3⟩ := hrow.parts
      simp only [Value.slice.injEq] at h1
      omega
    rw [hyl] at hrow hcap ⊢
    have HYL := Lib.hid hyl
    clear hyl
    go_enter Try.func23, Try.ntmps23
    go_wp2
    go_loopw [1, 5] (fun kk i wr => ∃ (j : Nat) (m : Int) (yy : List (List Value)), j ≤ zs.length ∧ i = .int .i64 j ∧ kk = .int .i64 m ∧ 0 ≤ m ∧ m ≤ k0 + 1048577 * j ∧ Row base 49 2 wr (.slice (some ⟨g, 0, none⟩) zs.length cap) yy ∧ Hid (HeadsOf yy zs) ∧
        Hid (∀ z ∈ zs, ∃ zl, Row base 3 1 wr z.sv zl ∧ zl.length = z.k.splits.length) ∧ KeptOff (PasBlk (.slice (some ⟨g, 0, none⟩) zs.length cap) zs) w wr)
      (fun _ i _ => zs.length - (intOf i).toNat)
    case atStart => exact ⟨0, k0, ys, Nat.zero_le _, rfl, rfl, h0, by omega, hrow, HH.out, fun z hz => ⟨_, (HZ.out z hz).1, by simp⟩, KeptOff.refl _ _⟩
    case round =>
      clear hrow
      obtain ⟨j, m, yy, hjl, rfl, rfl, hm0, hm1, hrow, HY, HIN, hko⟩ := hrel
      by_cases hlt : j < zs.length
      · have hjy : j < yy.length := by rw [HY.out.1]; exact hlt
        obtain ⟨r0, hr0⟩ := HY.out.2 j hjy hlt
        have hc2 := hrow.cell (k := j) (j := 1) hjy (by omega)
        rw [hr0] at hc2
        have hm2 : m ≤ 1048577 + 1048577 * 1048576 := by omega
        have HK := Lib.hid hko
        have HZN := Lib.hid (HZ.out zs[j] (List.getElem_mem hlt)).2
        have HZI := Lib.hid (HIN.out zs[j] (List.getElem_mem hlt))
        have HZM := Lib.hid (List.getElem_mem hlt)
        have HZL := Lib.hid (HLZ.out zs[j] (List.getElem_mem hlt))
        have hset := HeadsOf.set HY.out hjy m
        obtain ⟨z, hz⟩ : ∃ z, z = zs[j] := ⟨_, rfl⟩
        rw [← hz] at hc2 HZN HZI HZM HZL
        have HZE := Lib.hid hz
        have hc2' : wr.cell? ⟨g, j * 2 + 1, none⟩ = some z.sv := by simpa using hc2
        have HSET := Lib.hid hset
        have HJY := Lib.hid hjy
        clear hr0 hko hz hc2 hset
        go_wp2_with (first
          | (refine put1_ (e := 49) (sz := 2) rfl _ _ _ rfl infoInt base g zs.length cap j 0 _ _ _ hrow HJY.out (by omega) rfl (by omega) rfl ?_; intro w1 hrow1 hg1
             have hc3 : w1.cell? ⟨g, j * 2 + 1, none⟩ = some z.sv := by
               have h1 := hrow1.cell (k := j) (j := 1) (by simpa using HJY.out) (by omega)
               obtain ⟨r1, hr1⟩ := HSET.out.2 j (by simpa using HJY.out) hlt
               rw [hr1] at h1
               rw [HZE.out]
               simpa using h1
             have HR1 := Lib.hid hrow1
             have HG1 := Lib.hid hg1)
          | (go_at_call 32
             obtain ⟨zl, hzr, hzl⟩ := HZI.out
             have hzr1 := Row.kept hzr HG1.out HZN.out
             refine (markIntS_any base _ zl (m + 1) _ hzr1 (by have := HZL.out; omega) (by omega) (by omega)).mono ?_
             rintro e w2 ⟨rfl, hzr2, hg2⟩
             have HZR2 := Lib.hid hzr2
             have HG2 := Lib.hid hg2
             have HLL := Lib.hid hzl))
        have HB := Lib.hid (show KeptOff (PasBlk (.slice (some ⟨g, 0, none⟩) zs.length cap) zs) w w2 from
          (HK.out.trans (KeptOff.of_grown HG1.out (fun k hk => .inl hk))).trans (KeptOff.of_grown HG2.out (fun k hk => .inr ⟨z, HZM.out, hk⟩)))
        have HINN := Lib.hid (show ∀ z' ∈ zs, ∃ zl', Row base 3 1 w2 z'.sv zl' ∧ zl'.length = z'.k.splits.length from fun z' hz' => by
          obtain ⟨zl', h1, h2⟩ := HIN.out z' hz'
          have h1' := Row.kept h1 HG1.out (HZ.out z' hz').2
          obtain ⟨i, hi, rfl⟩ := List.getElem_of_mem hz'
          by_cases e : i = j
          · subst e
            rw [← HZE.out]
            exact ⟨_, HZR2.out, by simp [intMarks]; exact HLL.out⟩
          · refine ⟨zl', Row.kept h1' HG2.out ?_, h2⟩
            rw [HZE.out]
            rcases Nat.lt_or_ge i j with hij | hij
            · exact List.pairwise_iff_getElem.1 HA.out i j hi hlt hij
            · have := List.pairwise_iff_getElem.1 HA.out j i hlt hi (by omega)
              rcases this with h | h
              · rw [h]; by_cases hn : zs[i].sv.ownBlock = none
                · exact .inl hn
                · exact .inr hn
              · exact .inr (fun e => h e.symm))
        have HRW := Lib.hid (show Row base 49 2 w2 (.slice (some ⟨g, 0, none⟩) zs.length cap) (yy.set j (yy[j].set 0 (.int .i64 m))) from
          Row.kept HR1.out HG2.out (by
            rcases HZN.out with h | h
            · rw [h]; exact .inr (by simp [Value.ownBlock])
            · exact .inr (fun e => h e.symm)))
        have hzl := HLL.out
        have hzb := HZL.out
        go_roundw
        case rel => exact ⟨j + 1, m + 1 + (1 * zl.length : Nat), _, by omega, by go_num, by go_num, by omega, by omega, HRW.out, HSET.out, HINN.out, HB.out⟩
        case measure => simp [intOf]; omega
      · have HM := Lib.hid (show m ≤ 4611686018427387904 by omega)
        go_wp2
        go_ret
        exact ⟨m, rfl, hm0, HM.out, hko⟩
  · have hz : zs = [] := List.eq_nil_of_length_eq_zero (by omega)
    subst hz
    obtain ⟨A, c, rfl⟩ : ∃ A c, v = .slice A 0 c := by
      obtain ⟨A, c, h1, _⟩ := hrow.parts
      exact ⟨A, c, by rw [h1, hyl]; rfl⟩
    clear hrow
    go_enter Try.func23, Try.ntmps23
    go_wp2
    go_loop [1, 5] (fun kk i => kk = .int .i64 k0 ∧ i = .int .i64 0) (fun _ _ => 0)
    case atStart => exact ⟨rfl, rfl⟩
    case round =>
      obtain ⟨rfl, rfl⟩ := hrel
      go_wp2
      go_ret
      exact ⟨k0, rfl, h0, by omega, KeptOff.refl _ _⟩
end Go.Proofs.Ytbeonigmcbipeaa
