/- The walks of CountingRaces: the runner's counting races, both sides. No condition. -/
import Derived.Test.YthhlfkeikcmnlaaZAsked
import Derived.Test.YthhlfkeikcmnlaaZPut
import Derived.Test.YthhlfkeikcmnlaaZSortJ
namespace Go.Proofs.Ythhlfkeikcmnlaa
open Go Go.RowKit

theorem putU_len (l : List Int) (x : Int) : (putU l x).length ≤ l.length + 1 := by
  unfold putU
  split
  · omega
  · have := below_le l x
    simp
    omega
theorem foldl_putU_len : ∀ (xs l : List Int), (xs.foldl putU l).length ≤ l.length + xs.length
  | [], l => by simp
  | x :: xs, l => by
    have h1 := foldl_putU_len xs (putU l x)
    have h2 := putU_len l x
    simp only [List.foldl_cons, List.length_cons]
    omega
theorem putUs_len (xs : List Int) : (putUs xs).length ≤ xs.length := by
  have := foldl_putU_len xs []
  simpa [putUs] using this
noncomputable def cntL (m : Int) (xs : List Score) (r : Int) : List Int := ((ofS xs r).take m.toNat).map Score.race
noncomputable def cntS (n m : Int) (xs : List Score) (r : Int) : List Int := if askS n m xs r = true then putUs (cntL m xs r) else []
theorem nodup_sort {l : List Int} (h : l.Nodup) : putAll ltI l = putUs l := by
  refine asc_ext ?_ (putUs_ok l).1 fun x => by rw [(putUs_ok l).2]; exact (putAll_perm ltI l).mem_iff
  have h1 := putAll_sorted l
  have h2 : (putAll ltI l).Nodup := (putAll_perm ltI l).nodup_iff.2 h
  refine (List.Pairwise.and h1 h2).imp ?_
  rintro a b ⟨ha, hb⟩
  omega
theorem cntL_nodup {n m : Int} {xs : List Score} (h : goodS n m xs = true) (r b : Int) : (cntL b xs r).Nodup := by
  unfold cntL
  rw [List.map_take]
  have h1 : ((ownS xs r).map Score.race).Nodup := (own_asc h r).imp fun hab => by omega
  have h2 : ((ofS xs r).map Score.race).Nodup := (((putAll_perm ltP (ownS xs r)).map Score.race).nodup_iff).2 h1
  exact h2.sublist (List.take_sublist _ _)
theorem ask_iff {n m : Int} {xs : List Score} {r : Int} : askS n m xs r = true ↔ goodS n m xs = true ∧ 0 < (ofS xs r).length := by simp [askS]
theorem cntS_len (n m : Int) (xs : List Score) (r : Int) : (cntS n m xs r).length ≤ 8 := by
  unfold cntS
  split
  · rename_i h
    have hg := (ask_iff.1 h).1
    rw [← nodup_sort (cntL_nodup hg r m), putAll_len]
    unfold cntL
    simp only [List.length_map, List.length_take]
    have h1 : (ofS xs r).length = (ownS xs r).length := by unfold ofS; exact putAll_len _ _
    have h2 := own_len hg r
    rw [h1]
    omega
  · simp
theorem cntS_ok (n m : Int) (xs : List Score) (r : Int) (ho : ∀ x ∈ xs, Score.ok x) : ∀ x ∈ cntS n m xs r, I64 x := by
  unfold cntS
  split
  · intro x hx
    rw [(putUs_ok _).2] at hx
    unfold cntL at hx
    obtain ⟨s, hs, rfl⟩ := List.mem_map.1 hx
    have h1 : s ∈ ofS xs r := List.mem_of_mem_take hs
    have h2 : s ∈ ownS xs r := ((putAll_perm ltP (ownS xs r)).mem_iff).1 h1
    have h3 : s ∈ xs := (List.mem_filter.1 h2).1
    exact (ho s h3).2.1
  · simp

set_option maxHeartbeats 2000000 in
theorem spec_CountingRaces (x0 x1 : Int) (x2 : List Score) (v2 : Value) (x3 : Int) (w : World) (hi0 : I64 x0) (hi1 : I64 x1) (h : Sl (Flat Score.lst) 3 w v2 x2) (ho2 : ∀ x ∈ x2, Score.ok x) (hi3 : I64 x3) :
    Calls Try.prog 39 #[.int .i64 x0, .int .i64 x1, v2, .int .i64 x3] w fun e w' => ∃ r0, e = .returned (.tuple #[r0, .bool (askS x0 x1 x2 x3)]) ∧ Row w.heap.size 3 1 w' r0 ((cntS x0 x1 x2 x3).map ints) ∧ Below w.heap.size w w' := by
  have ownN : Own w 3 1 (w.alloc (.cells #[] 3)) (.slice (some ⟨w.heap.size, 0, none⟩) 0 0) [] := Own.nil (Below.refl _ _) _ rfl
  by_cases ha : askS x0 x1 x2 x3 = true
  · have hg := (ask_iff.1 ha).1
    have hgb := good_best hg
    have hn : x2.length ≤ 1048577 := by have := good_len hg; omega
    obtain ⟨bn, rfl⟩ : ∃ bn : Nat, x1 = bn := ⟨x1.toNat, by omega⟩
    have HC := Lib.hid (show cntS x0 bn x2 x3 = putUs (((ofS x2 x3).take bn).map Score.race) by unfold cntS cntL; rw [if_pos ha]; simp)
    have HL := Lib.hid (show (ofS x2 x3).length ≤ 20 by unfold ofS; rw [putAll_len]; have := own_len hg x3; omega)
    have HA := Lib.hid ha
    have hb0 := hgb.1
    have hb9 := hgb.2
    clear hg ha hgb
    go_enter Try.func39, Try.ntmps39
    go_wp2_with fail
    refine (l20Asked_any x0 bn x2 x3 _ _ (h.below (Flat.keeps _) ownN.b)).mono ?_
    rintro e w1 ⟨rfl, hb1⟩
    rw [HA.out]
    have own1 := ownN.below hb1
    go_wp2_with fail
    refine (l20Of_any x2 x3 v2 _ (h.below (Flat.keeps _) own1.b) hn).mono ?_
    rintro e w2 ⟨o, rfl, row, hb2⟩
    have own2 := own1.below hb2
    obtain ⟨ys, hys⟩ : ∃ ys, ys = ofS x2 x3 := ⟨_, rfl⟩
    obtain ⟨A, c, rfl, hc, hm⟩ := row.parts
    rw [← hys] at row HL HC
    simp only [List.length_map, ← hys] at hc ⊢
    have hy20 := HL.out
    clear h hys ownN own1
    go_wp2_with fail
    go_loopw [10, 12] (fun s i wr => ∃ k : Nat, k ≤ ys.length ∧ k ≤ bn ∧ i = .int .i64 k ∧ Own w 3 1 wr s ((putUs ((ys.take k).map Score.race)).map ints) ∧ Below w2.heap.size w2 wr)
      (fun _ i _ => ys.length - (intOf i).toNat)
    case atStart => exact ⟨0, Nat.zero_le _, Nat.zero_le _, rfl, own2, Below.refl _ _⟩
    case round =>
      obtain ⟨k, hkl, hkb, rfl, own, hb⟩ := hrel
      by_cases hlt : k < ys.length
      · by_cases hlb : k < bn
        · obtain ⟨g, cap, he, hbg, hg, hcap⟩ := row.form (by simp; omega)
          simp only [Value.slice.injEq] at he
          obtain ⟨rfl, hq, rfl⟩ := he
          have hr := row.range (k := k) (by simpa using hlt)
          rw [List.getElem_map] at hr
          have HS := Lib.hid (show putUs ((ys.take (k + 1)).map Score.race) = putU (putUs ((ys.take k).map Score.race)) ys[k].race by
            have := putUs_take (ys.map Score.race) k (by simpa using hlt)
            rw [List.map_take, List.map_take, this, List.getElem_map])
          have hpl : (putUs ((ys.take k).map Score.race)).length ≤ 1048577 := by
            have h1 := putUs_len ((ys.take k).map Score.race)
            rw [List.length_map, List.length_take, Nat.min_eq_left hkl] at h1
            omega
          obtain ⟨pl, hpl'⟩ : ∃ pl, pl = putUs ((ys.take k).map Score.race) := ⟨_, rfl⟩
          rw [← hpl'] at own hpl HS
          obtain ⟨x, hx⟩ : ∃ x, x = ys[k] := ⟨_, rfl⟩
          rw [← hx] at hr HS
          have hcn := Score.cells (rangeAt_below hr hb)
          clear hq hr hx hpl' own2
          go_wp2_with fail
          refine (l1Put_any (w0 := w) pl x.race _ _ own hpl).mono ?_
          rintro e w3 ⟨r1, rfl, own3, hb3⟩
          clear own
          go_wp2
          go_roundw
          case rel => exact ⟨k + 1, by omega, by omega, by go_num, by rw [HS.out]; exact own3, step_ hb (Nat.le_refl _) hb3⟩
          case measure => simp [intOf]; omega
        · go_wp2
          go_ret2
          obtain rfl : k = bn := by omega
          exact ⟨_, by (rw [HA.out] <;> rfl), by rw [HC.out]; exact own.1, own.b⟩
      · go_wp2
        go_ret2
        obtain rfl : k = ys.length := by omega
        exact ⟨_, by (rw [HA.out] <;> rfl), by rw [HC.out, List.take_of_length_le (by omega : ys.length ≤ bn)]; rw [List.take_length] at own; exact own.1, own.b⟩
  · have ha' : askS x0 x1 x2 x3 = false := by simpa using ha
    have HA := Lib.hid ha'
    have HC := Lib.hid (show cntS x0 x1 x2 x3 = [] by unfold cntS; rw [if_neg ha])
    clear ha ha'
    go_enter Try.func39, Try.ntmps39
    go_wp2_with fail
    refine (l20Asked_any x0 x1 x2 x3 _ _ (h.below (Flat.keeps _) ownN.b)).mono ?_
    rintro e w1 ⟨rfl, hb1⟩
    rw [HA.out]
    have own1 := ownN.below hb1
    go_wp2
    go_ret2
    exact ⟨_, by (rw [HA.out] <;> rfl), by rw [HC.out]; exact own1.1, own1.b⟩

set_option maxRecDepth 100000 in
set_option maxHeartbeats 4000000 in
theorem impl_CountingRaces (x0 x1 : Int) (x2 : List Score) (v2 : Value) (x3 : Int) (w : World) (hi0 : I64 x0) (hi1 : I64 x1) (h : Sl (Flat Score.lst) 3 w v2 x2) (ho2 : ∀ x ∈ x2, Score.ok x) (hi3 : I64 x3) :
    Calls Try.prog 40 #[.int .i64 x0, .int .i64 x1, v2, .int .i64 x3] w fun e w' => ∃ r0, e = .returned (.tuple #[r0, .bool (askS x0 x1 x2 x3)]) ∧ Row w.heap.size 3 1 w' r0 ((cntS x0 x1 x2 x3).map ints) ∧ Below w.heap.size w w' := by
  by_cases ha : askS x0 x1 x2 x3 = true
  · have hg := (ask_iff.1 ha).1
    have hgb := good_best hg
    have hn : x2.length ≤ 1048577 := by have := good_len hg; omega
    obtain ⟨bn, rfl⟩ : ∃ bn : Nat, x1 = bn := ⟨x1.toNat, by omega⟩
    have HC := Lib.hid (show cntS x0 bn x2 x3 = putAll ltI (((ofS x2 x3).take bn).map Score.race) by
      have := nodup_sort (cntL_nodup hg x3 bn)
      unfold cntS; rw [if_pos ha, ← this]; unfold cntL; simp)
    have HL := Lib.hid (show (ofS x2 x3).length ≤ 8 ∧ 0 < (ofS x2 x3).length from ⟨by unfold ofS; rw [putAll_len]; exact own_len hg x3, (ask_iff.1 ha).2⟩)
    have h20 : (ownS x2 x3).length ≤ 20 := by have := own_len hg x3; omega
    have HA := Lib.hid ha
    have hb0 := hgb.1
    have hb9 := hgb.2
    clear hg ha hgb
    go_enter Try.func40, Try.ntmps40
    go_wp2_with fail
    refine (hasScore_any x0 bn x2 x3 _ _ h).mono ?_
    rintro e w1 ⟨rfl, hb1⟩
    rw [HA.out]
    go_wp2_with fail
    refine (scoresOf_any x2 x3 v2 _ (h.below (Flat.keeps _) hb1) hn h20).mono ?_
    rintro e w2 ⟨o, rfl, row, hb2⟩
    have hB2 := step_ hb1 (Nat.le_refl _) hb2
    have ownN : Own w2 3 1 (w2.alloc (.cells #[] 3)) (.slice (some ⟨w2.heap.size, 0, none⟩) 0 0) [] := Own.nil (Below.refl _ _) _ rfl
    obtain ⟨ys, hys⟩ : ∃ ys, ys = ofS x2 x3 := ⟨_, rfl⟩
    obtain ⟨A, c, rfl, hc, hm⟩ := row.parts
    rw [← hys] at row HL HC
    simp only [List.length_map, ← hys] at hc ⊢
    have hy8 := HL.out.1
    have hy0 := HL.out.2
    clear h hys
    by_cases hbn : bn ≤ ys.length
    · have hbn' : (bn : Int) ≤ (ys.length : Int) := by omega
      have hKc : (bn : Int) ≤ (c : Int) := by omega
      go_wp2_with fail
      go_loopw [11, 31] (fun s i wr => ∃ k : Nat, k ≤ bn ∧ i = .int .i64 k ∧ Own w2 3 1 wr s (((ys.take k).map Score.race).map ints))
        (fun _ i _ => bn - (intOf i).toNat)
      case atStart => exact ⟨0, Nat.zero_le _, rfl, ownN⟩
      case round =>
        obtain ⟨k, hkl, rfl, own⟩ := hrel
        by_cases hlt : k < bn
        · have hky : k < ys.length := by omega
          obtain ⟨g, cap, he, hbg, hg, hcap⟩ := row.form (by simp; omega)
          simp only [Value.slice.injEq] at he
          obtain ⟨rfl, hq, rfl⟩ := he
          have hr := row.range (k := k) (by simpa using hky)
          rw [List.getElem_map] at hr
          have HS := Lib.hid (show ((ys.take (k + 1)).map Score.race).map ints = ((ys.take k).map Score.race).map ints ++ [ints ys[k].race] by
            rw [List.take_succ_eq_append_getElem hky, List.map_append, List.map_append]; rfl)
          have HLL := Lib.hid (show (((ys.take k).map Score.race).map ints).length + 1 ≤ 2147483648 by simp; omega)
          obtain ⟨pl, hpl⟩ : ∃ pl, pl = ((ys.take k).map Score.race).map ints := ⟨_, rfl⟩
          rw [← hpl] at own HS HLL
          obtain ⟨x, hx⟩ : ∃ x, x = ys[k] := ⟨_, rfl⟩
          rw [← hx] at hr HS
          have hr := rangeAt_below hr own.2
          have hcn := Score.cells (Score.rangeNew wr x 33)
          simp only [Nat.zero_add] at hcn
          have hrow := own.1
          have HOB := Lib.hid own.2
          have HGE := Lib.hid (fun q hq => (hrow.lt q hq).1)
          clear hq hx hpl
          go_wp2_with (first
            | ((with_reducible refine at_load_ 33 ?_); refine Score.loadImpl rfl _ rfl g (k * 3) rfl x hr ?_)
            | (at_builtin; refine tyInt.append rfl _ _ rfl w2.heap.size _ _ rfl ((hrow.alloc _).alloc _) _ 1 1 [ints x.race] rfl (Src.lit _ _ (ints x.race) _ (by simp) rfl (ints_one _)) HLL.out (by simp; exact Nat.le_succ_of_le (Nat.le_succ_of_le HOB.out.size)) ?_; intro o3 w3 hrow3 hg3 _))
          have hb1' := HOB.out.alloc HOB.out.size (.cells #[.int .i64 x.runner, .int .i64 x.race, .int .i64 x.points] 33)
          have hb2' := hb1'.alloc hb1'.size (.cells #[.int .i64 x.race] 3)
          have hb3' := hb2'.grown hg3 hb2'.size (fun q hq => HGE.out q hq)
          have HON := Lib.hid hb3'
          clear hb1' hb2' hb3' hrow
          go_roundw
          case rel => exact ⟨k + 1, by omega, by go_num, by rw [HS.out]; exact ⟨hrow3, HON.out⟩⟩
          case measure => simp [intOf]; omega
        · obtain rfl : k = bn := by omega
          obtain ⟨zs, hzs⟩ : ∃ zs, zs = (ys.take k).map Score.race := ⟨_, rfl⟩
          rw [← hzs] at own HC
          have hz12 : zs.length ≤ 12 := by rw [hzs]; simp; omega
          have hz0 : 0 < zs.length := by rw [hzs]; simp; omega
          obtain ⟨A2, c2, rfl, hc2, hm2⟩ := own.1.parts
          obtain ⟨g2, cap2, he2, hbg2, hg2, hcap2⟩ := own.1.form (by simp; omega)
          simp only [Value.slice.injEq] at he2
          obtain ⟨rfl, hq2, rfl⟩ := he2
          simp only [List.length_map] at own ⊢
          clear hq2 hzs
          go_wp2_with fail
          refine (sort_any w2.heap.size g2 _ _ zs _ own.1 rfl hm2 hz12).mono ?_
          rintro e w4 ⟨rfl, row4, hg4⟩
          have hfb := own.2.grown hg4 own.2.size (fun q hq => by cases hq; exact hbg2)
          go_wp2
          go_ret2
          exact ⟨_, by (rw [HA.out] <;> rfl), by rw [HC.out]; exact row4.mono hB2.size, step_ hB2 (Nat.le_refl _) hfb⟩
    · have HC := Lib.hid (show cntS x0 bn x2 x3 = putAll ltI ((ys.take ys.length).map Score.race) by rw [HC.out, List.take_length, List.take_of_length_le (by omega : ys.length ≤ bn)])
      have hbn' : ¬ (bn : Int) ≤ (ys.length : Int) := by omega
      have hKc : (ys.length : Int) ≤ (c : Int) := by omega
      go_wp2_with fail
      go_loopw [11, 31] (fun s i wr => ∃ k : Nat, k ≤ ys.length ∧ i = .int .i64 k ∧ Own w2 3 1 wr s (((ys.take k).map Score.race).map ints))
        (fun _ i _ => ys.length - (intOf i).toNat)
      case atStart => exact ⟨0, Nat.zero_le _, rfl, ownN⟩
      case round =>
        obtain ⟨k, hkl, rfl, own⟩ := hrel
        by_cases hlt : k < ys.length
        · have hky : k < ys.length := by omega
          obtain ⟨g, cap, he, hbg, hg, hcap⟩ := row.form (by simp; omega)
          simp only [Value.slice.injEq] at he
          obtain ⟨rfl, hq, rfl⟩ := he
          have hr := row.range (k := k) (by simpa using hky)
          rw [List.getElem_map] at hr
          have HS := Lib.hid (show ((ys.take (k + 1)).map Score.race).map ints = ((ys.take k).map Score.race).map ints ++ [ints ys[k].race] by
            rw [List.take_succ_eq_append_getElem hky, List.map_append, List.map_append]; rfl)
          have HLL := Lib.hid (show (((ys.take k).map Score.race).map ints).length + 1 ≤ 2147483648 by simp; omega)
          obtain ⟨pl, hpl⟩ : ∃ pl, pl = ((ys.take k).map Score.race).map ints := ⟨_, rfl⟩
          rw [← hpl] at own HS HLL
          obtain ⟨x, hx⟩ : ∃ x, x = ys[k] := ⟨_, rfl⟩
          rw [← hx] at hr HS
          have hr := rangeAt_below hr own.2
          have hcn := Score.cells (Score.rangeNew wr x 33)
          simp only [Nat.zero_add] at hcn
          have hrow := own.1
          have HOB := Lib.hid own.2
          have HGE := Lib.hid (fun q hq => (hrow.lt q hq).1)
          clear hq hx hpl
          go_wp2_with (first
            | ((with_reducible refine at_load_ 33 ?_); refine Score.loadImpl rfl _ rfl g (k * 3) rfl x hr ?_)
            | (at_builtin; refine tyInt.append rfl _ _ rfl w2.heap.size _ _ rfl ((hrow.alloc _).alloc _) _ 1 1 [ints x.race] rfl (Src.lit _ _ (ints x.race) _ (by simp) rfl (ints_one _)) HLL.out (by simp; exact Nat.le_succ_of_le (Nat.le_succ_of_le HOB.out.size)) ?_; intro o3 w3 hrow3 hg3 _))
          have hb1' := HOB.out.alloc HOB.out.size (.cells #[.int .i64 x.runner, .int .i64 x.race, .int .i64 x.points] 33)
          have hb2' := hb1'.alloc hb1'.size (.cells #[.int .i64 x.race] 3)
          have hb3' := hb2'.grown hg3 hb2'.size (fun q hq => HGE.out q hq)
          have HON := Lib.hid hb3'
          clear hb1' hb2' hb3' hrow
          go_roundw
          case rel => exact ⟨k + 1, by omega, by go_num, by rw [HS.out]; exact ⟨hrow3, HON.out⟩⟩
          case measure => simp [intOf]; omega
        · obtain rfl : k = ys.length := by omega
          obtain ⟨zs, hzs⟩ : ∃ zs, zs = (ys.take ys.length).map Score.race := ⟨_, rfl⟩
          rw [← hzs] at own HC
          have hz12 : zs.length ≤ 12 := by rw [hzs]; simp; omega
          have hz0 : 0 < zs.length := by rw [hzs]; simp; omega
          obtain ⟨A2, c2, rfl, hc2, hm2⟩ := own.1.parts
          obtain ⟨g2, cap2, he2, hbg2, hg2, hcap2⟩ := own.1.form (by simp; omega)
          simp only [Value.slice.injEq] at he2
          obtain ⟨rfl, hq2, rfl⟩ := he2
          simp only [List.length_map] at own ⊢
          clear hq2 hzs
          go_wp2_with fail
          refine (sort_any w2.heap.size g2 _ _ zs _ own.1 rfl hm2 hz12).mono ?_
          rintro e w4 ⟨rfl, row4, hg4⟩
          have hfb := own.2.grown hg4 own.2.size (fun q hq => by cases hq; exact hbg2)
          go_wp2
          go_ret2
          exact ⟨_, by (rw [HA.out] <;> rfl), by rw [HC.out]; exact row4.mono hB2.size, step_ hB2 (Nat.le_refl _) hfb⟩
  · have ha' : askS x0 x1 x2 x3 = false := by simpa using ha
    have HA := Lib.hid ha'
    have HC := Lib.hid (show cntS x0 x1 x2 x3 = [] by unfold cntS; rw [if_neg ha])
    clear ha ha'
    go_enter Try.func40, Try.ntmps40
    go_wp2_with fail
    refine (hasScore_any x0 x1 x2 x3 _ _ h).mono ?_
    rintro e w1 ⟨rfl, hb1⟩
    rw [HA.out]
    go_wp2
    go_ret2
    exact ⟨_, by (rw [HA.out] <;> rfl), by rw [HC.out]; exact Row.nil _ _ _ _, hb1⟩
end Go.Proofs.Ythhlfkeikcmnlaa
