/- Places in the reference's memory, and the walk of its list of them. No condition. -/
import Derived.Test.YtabgmbmaakglkaaHtD
import Derived.Test.YtabgmbmaakglkaaHtF
import Derived.Test.YtabgmbmaakglkaaGrow
namespace Go.Proofs.Ytabgmbmaakglkaa
open Go Go.RowKit

def Fns.S (f : Fns) : List Value := [.int .i64 f.place, .int .i64 f.time, .int .i64 f.runner]
theorem Fns.S_len (f : Fns) : f.S.length = 3 := rfl
theorem Fns.S_one (f : Fns) : ∀ u ∈ f.S, u.oneCell' = true := by simp [Fns.S, Value.oneCell']
theorem tyPl : Ty Try.prog 77 80 (.agg #[.int .i64 0, .int .i64 0, .int .i64 0]) [.int .i64 0, .int .i64 0, .int .i64 0] 3 24 := ⟨Try.underlying77, by kernel_rfl, rfl, rfl, by decide, by decide⟩
theorem stPl : St Try.prog 80 3 := ⟨⟨_, Try.underlying80⟩, by kernel_rfl⟩
theorem Fns.cellsS {w : World} {b off : Nat} {f : Fns} (h : w.rangeAt b off f.S) : w.cell? ⟨b, off, none⟩ = some (.int .i64 f.place) ∧ w.cell? ⟨b, off + 1, none⟩ = some (.int .i64 f.time) ∧ w.cell? ⟨b, off + 2, none⟩ = some (.int .i64 f.runner) :=
  ⟨h 0 _ rfl, h 1 _ rfl, h 2 _ rfl⟩
theorem Fns.loadS {w : World} {ops : Array Oper} {rest : List Oper} {o : Oper} {a : Act} {Q : Exit → Act → World → Prop} (hgd : o.guard = none) (x : Operand) (ho : o.op = .load 80 x) (b off : Nat) (hx : a.eval x = .pointer (some ⟨b, off, none⟩)) (f : Fns) (hc : w.rangeAt b off f.S)
    (h : wpList Try.prog ops Q rest (a.put o.dst (.agg #[.int .i64 f.place, .int .i64 f.time, .int .i64 f.runner])) w) : wpList Try.prog ops Q (o :: rest) a w := stPl.load hgd x ho b off hx f.S rfl hc h
theorem finN_take {h : HK} {j : Nat} (hj : j < (ordI h).length) : (finN h).take (j + 1) = (finN h).take j ++ [⟨j, tmAt h (ordI h)[j], rnAt h (ordI h)[j]⟩] := by
  have hl : j < (finN h).length := by rw [finN_len]; have := putAll_len (ltJ h) (rawI h); unfold ordI at hj; omega
  rw [List.take_succ_eq_append_getElem hl]
  congr 2
  have hl' : j < (placed ((ordI h).map (fnAt h))).length := hl
  have := placed_get hl'
  simp only [finN] at this ⊢
  rw [this]
  simp [fnAt]
theorem finN_all (h : HK) : (finN h).take (ordI h).length = finN h := by
  apply List.take_of_length_le
  rw [finN_len]
  have := putAll_len (ltJ h) (rawI h)
  unfold ordI; omega
theorem allF_le {ks : List HK} (g : goodR ks = true) {k : Nat} (hk : k ≤ ks.length) : (allF (ks.take k)).length ≤ 24 := by
  have g' := goodR_iff.1 g
  have h1 := goodR_len g'
  have hsp : allF ks = allF (ks.take k) ++ allF (ks.drop k) := by
    conv => lhs; rw [← List.take_append_drop k ks]
    unfold allF
    rw [List.flatMap_append]
  rw [hsp, List.length_append] at h1
  omega

set_option maxRecDepth 100000 in
set_option maxHeartbeats 4000000 in
theorem l18Places_any (xs : List Ht) (v : Value) (w : World) (h : HtS w v xs) (hg : goodR (xs.map Ht.k) = true) :
    Calls Try.prog 58 #[v] w fun e w' => ∃ r, e = .returned r ∧ Row w.heap.size 80 3 w' r ((allF (xs.map Ht.k)).map Fns.S) ∧ Below w.heap.size w w' := by
  obtain ⟨A, c, rfl, hc, hm, hk⟩ := h.1.open_
  have HI := Lib.hid h.2
  have HG := Lib.hid (show ∀ p ∈ xs, goodH p.k = true from fun p hp => goodH_true ((goodR_iff.1 hg).1 _ (List.mem_map.2 ⟨p, hp, rfl⟩)))
  have HAL := Lib.hid (show ∀ k, k ≤ (xs.map Ht.k).length → (allF ((xs.map Ht.k).take k)).length ≤ 24 from fun k hk => allF_le hg hk)
  clear h hg
  have HO0 := Lib.hid (show Own w 80 3 (w.alloc (.cells #[] 80)) (.slice (some ⟨w.heap.size, 0, none⟩) 0 0) [] from Own.nil (Below.refl _ _) _ rfl)
  go_enter Try.func58, Try.ntmps58
  go_wp2
  go_loopw [3, 4] (fun o i wr => ∃ k : Nat, k ≤ xs.length ∧ i = .int .i64 k ∧ Own w 80 3 wr o ((allF ((xs.map Ht.k).take k)).map Fns.S))
    (fun _ i _ => xs.length - (intOf i).toNat)
  case atStart => exact ⟨0, Nat.zero_le _, rfl, HO0.out⟩
  case round =>
    clear HO0
    obtain ⟨k, hkl, rfl, own⟩ := hrel
    obtain ⟨wo, rfl⟩ : ∃ wo : World, wo = wr := ⟨_, rfl⟩
    by_cases hlt : k < xs.length
    · obtain ⟨b, off, rfl, hat⟩ := flat_at hk (by omega)
      have HRW := Lib.hid (hat k hlt)
      have hin := HI.out _ (List.getElem_mem hlt)
      have HGK := Lib.hid (HG.out _ (List.getElem_mem hlt))
      have HLK := Lib.hid (HAL.out k (by rw [List.length_map]; omega))
      have HS := Lib.hid (show allF ((xs.map Ht.k).take (k + 1)) = allF ((xs.map Ht.k).take k) ++ finN xs[k].k by rw [allF_take (by rw [List.length_map]; exact hlt)]; simp)
      obtain ⟨p, hp⟩ : ∃ p, p = xs[k] := ⟨_, rfl⟩
      rw [← hp] at HRW hin HGK HS
      obtain ⟨pre, hpre⟩ : ∃ pre, pre = allF ((xs.map Ht.k).take k) := ⟨_, rfl⟩
      rw [← hpre] at own HS HLK
      clear hp hpre hat hk
      have HORD := Lib.hid (l18Order_any p wo (hin.below own.b) HGK.out)
      have hgp := goodH_iff.1 HGK.out
      have hpl := hin.len
      obtain ⟨O, hO⟩ : ∃ O, O = ordI p.k := ⟨_, rfl⟩
      obtain ⟨F, hF⟩ : ∃ F, F = finN p.k := ⟨_, rfl⟩
      have HOM := Lib.hid (show ∀ i ∈ O, i < p.k.runners.length from fun i hi => (ordI_mem.1 (hO ▸ hi)).1)
      have HOL := Lib.hid (show O.length ≤ 6 from by rw [hO]; have := ordI_len p.k; have := hgp.1.2; omega)
      have HFT := Lib.hid (show ∀ j (hj : j < O.length), F.take (j + 1) = F.take j ++ [⟨j, tmAt p.k O[j], rnAt p.k O[j]⟩] from fun j hj => by subst hO hF; exact finN_take hj)
      have HFA := Lib.hid (show F.take O.length = F by rw [hO, hF]; exact finN_all p.k)
      have HTM := Lib.hid (fun k (hk : k < p.k.times.length) => tmAt_eq (h := p.k) hk)
      have HRM := Lib.hid (fun k (hk : k < p.k.runners.length) => rnAt_eq (h := p.k) hk)
      have E2 := Lib.hid (show p.k.times.length = p.k.runners.length from hgp.2.1)
      have HFL := Lib.hid (show ∀ j, (F.take j).length ≤ 6 from fun j => by rw [List.length_take, hF, finN_len]; have := rawI_len p.k; have := hgp.1.2; omega)
      rw [← hO] at HORD
      rw [← hF] at HS
      clear hO hF hgp
      obtain ⟨⟨rs, ts⟩, A1, n1, c1, B1, m1, d1⟩ := p
      simp only at hpl
      obtain ⟨rfl, rfl⟩ := hpl
      have hsr : Sl (Flat ints) 1 w (.slice A1 rs.length c1) rs := hin.1
      have hst : Sl (Flat ints) 1 w (.slice B1 ts.length d1) ts := hin.2
      obtain ⟨A', c', hv, hcA, hmA, hkA⟩ := hsr.open_
      simp only [Value.slice.injEq] at hv
      obtain ⟨rfl, _, rfl⟩ := hv
      obtain ⟨B', d', hv, hcB, hmB, hkB⟩ := hst.open_
      simp only [Value.slice.injEq] at hv
      obtain ⟨rfl, _, rfl⟩ := hv
      clear hin hsr hst
      have hr0 := rangeAt_below HRW.out own.b
      go_wp2_with (first
        | ((with_reducible refine at_load_ 28 ?_); refine Ht.loadImpl rfl _ rfl b (off + k * 2) rfl ⟨⟨rs, ts⟩, A1, rs.length, c1, B1, ts.length, d1⟩ hr0 ?_)
        | (go_at_call 52; refine HORD.out.mono ?_; rintro e w2 ⟨o, rfl, row2, hb2⟩))
      obtain ⟨A2, c2, rfl, hc2, hm2⟩ := row2.parts
      simp only [ixs_len] at row2 hc2 ⊢
      have HO2 := Lib.hid (show Own w 80 3 w2 _ ((pre ++ F.take 0).map Fns.S) from by simpa using own.below hb2)
      have HR2 := Lib.hid row2
      have HNE2 := Lib.hid (apart_ own.1 row2 (Nat.le_refl _))
      clear row2 hb2 own HORD hr0
      go_loopw [3, 6] (fun o i wi => ∃ j : Nat, j ≤ O.length ∧ i = .int .i64 j ∧ Own w 80 3 wi o ((pre ++ F.take j).map Fns.S) ∧ Row wo.heap.size 3 1 wi (.slice A2 O.length c2) (ixs O) ∧ Hid ((Value.slice A2 O.length c2).ownBlock = none ∨ (Value.slice A2 O.length c2).ownBlock ≠ o.ownBlock))
        (fun _ i _ => O.length - (intOf i).toNat)
      case atStart => exact ⟨0, Nat.zero_le _, rfl, HO2.out, HR2.out, HNE2.out⟩
      case round =>
        clear HO2 HR2 HNE2
        obtain ⟨j, hjl, rfl, own, hrow, HNE⟩ := hrel
        by_cases hjt : j < O.length
        · obtain ⟨g, cap, he, hbg, hg, hcap⟩ := hrow.form (by rw [ixs_len]; omega)
          simp only [Value.slice.injEq] at he
          obtain ⟨rfl, hq, rfl⟩ := he
          clear hq hcap hbg
          have hr1 := hrow.range (k := j) (by rw [ixs_len]; exact hjt)
          rw [ixs_get] at hr1
          have hol := HOM.out _ (List.getElem_mem hjt)
          have hot : O[j] < ts.length := by have := E2.out; omega
          have HST := Lib.hid (HFT.out j hjt)
          rw [HTM.out _ hot, HRM.out _ hol] at HST
          obtain ⟨a1, oa, rfl, hatA⟩ := flat_at hkA (by omega)
          obtain ⟨b1, ob, rfl, hatB⟩ := flat_at hkB (by omega)
          have hx1 := hatA _ hol
          have hx2 := hatB _ hot
          obtain ⟨y, hy⟩ : ∃ y, y = ts[O[j]] := ⟨_, rfl⟩
          obtain ⟨z, hz⟩ : ∃ z, z = rs[O[j]] := ⟨_, rfl⟩
          rw [← hy] at hx2 HST
          rw [← hz] at hx1 HST
          clear hy hz
          obtain ⟨x, hx⟩ : ∃ x, x = O[j] := ⟨_, rfl⟩
          rw [← hx] at hx1 hx2 hr1 hol hot
          have HKEEP := Lib.hid (show ∀ W', Below wr.heap.size wr W' → W'.cell? ⟨b, off + k * 2 + 1, none⟩ = some (.slice (some ⟨b1, ob, none⟩) ts.length d1) ∧ W'.cell? ⟨b, off + k * 2, none⟩ = some (.slice (some ⟨a1, oa, none⟩) rs.length c1) ∧ W'.cell? ⟨g, j, none⟩ = some (.int .i64 (x : Int)) ∧ W'.cell? ⟨b1, ob + x, none⟩ = some (.int .i64 y) ∧ W'.cell? ⟨a1, oa + x, none⟩ = some (.int .i64 z) from fun W' hW' => by
            have hB := step_ own.b (Nat.le_refl _) hW'
            have e1 := Ht.cells (rangeAt_below HRW.out hB)
            have e2 := int_at (rangeAt_below hr1 hW')
            have e3 := int_at (rangeAt_below hx2 hB)
            have e4 := int_at (rangeAt_below hx1 hB)
            rw [Nat.mul_one] at e2 e3 e4
            exact ⟨e1.2, e1.1, e2, e3, e4⟩)
          have HPOST := Lib.hid (show ∀ Wm W', Below wr.heap.size wr Wm → Wm.grownBy W' u3.ownBlock → W'.cell? ⟨b, off + k * 2 + 1, none⟩ = some (.slice (some ⟨b1, ob, none⟩) ts.length d1) ∧ W'.cell? ⟨b, off + k * 2, none⟩ = some (.slice (some ⟨a1, oa, none⟩) rs.length c1) ∧ W'.cell? ⟨g, j, none⟩ = some (.int .i64 (x : Int)) ∧ W'.cell? ⟨b1, ob + x, none⟩ = some (.int .i64 y) ∧ W'.cell? ⟨a1, oa + x, none⟩ = some (.int .i64 z) from fun Wm W' hWm hg' => by
            obtain ⟨e1, e2, e3, e4, e5⟩ := HKEEP.out Wm hWm
            have hne : ∀ q, q < w.heap.size → u3.ownBlock ≠ some q := fun q hq e => by have := (own.1.lt q e).1; omega
            have l1 := block_lt_of_cell (Ht.cells HRW.out).1
            have l2 := block_lt_of_cell (int_at hx2)
            have l3 := block_lt_of_cell (int_at hx1)
            refine ⟨hg'.cell_far_ e1 (hne _ l1), hg'.cell_far_ e2 (hne _ l1), hg'.cell_far_ e3 (fun e => ?_), hg'.cell_far_ e4 (hne _ l2), hg'.cell_far_ e5 (hne _ l3)⟩
            rcases HNE.out with h | h
            · cases h
            · exact h e.symm)
          have hz1 : (0 : Int) ≤ (j : Int) := by omega
          have hz2 : (j : Int) < (O.length : Int) := by omega
          have hz3 : (0 : Int) ≤ (x : Int) := by omega
          have hz4 : (x : Int) < (ts.length : Int) := by omega
          have hz5 : (x : Int) < (rs.length : Int) := by omega
          have hz6 : (0 : Int) ≤ (k : Int) := by omega
          have hz7 : (k : Int) < (xs.length : Int) := by omega
          have hxl : 0 < xs.length := by omega
          have hOl : 0 < O.length := by omega
          have HSS := Lib.hid (show (pre ++ F.take (j + 1)).map Fns.S = (pre ++ F.take j).map Fns.S ++ [[.int .i64 (j : Int), .int .i64 y, .int .i64 z]] by rw [HST.out, ← List.append_assoc, List.map_append]; rfl)
          have HLL := Lib.hid (show ((pre ++ F.take j).map Fns.S).length + 1 ≤ 2147483648 by rw [List.length_map, List.length_append]; have := HLK.out; have := HFL.out j; omega)
          obtain ⟨cur, hcur⟩ : ∃ cur, cur = (pre ++ F.take j).map Fns.S := ⟨_, rfl⟩
          rw [← hcur] at own HSS HLL
          have HGT := Lib.hid hg
          clear hx hcur hx1 hx2 hr1 hatA hatB hkA hkB hg
          go_wp2_with fail
          go_region_held3 (fun w' => w'.cell? ⟨b, off + k * 2 + 1, none⟩ = some (.slice (some ⟨b1, ob, none⟩) ts.length d1) ∧ w'.cell? ⟨b, off + k * 2, none⟩ = some (.slice (some ⟨a1, oa, none⟩) rs.length c1) ∧ w'.cell? ⟨g, j, none⟩ = some (.int .i64 (x : Int)) ∧ w'.cell? ⟨b1, ob + x, none⟩ = some (.int .i64 y) ∧ w'.cell? ⟨a1, oa + x, none⟩ = some (.int .i64 z))
            (first | exact HPOST.out _ _ (by (repeat (first | (with_reducible exact Below.refl _ _) | (with_reducible exact Own.b own3) | (with_reducible exact Own.b own2) | (with_reducible exact Own.b own1) | (with_reducible refine Below.drew ?_) | (with_reducible refine below_alloc ?_ _)))) hg5 | exact HKEEP.out _ (by (repeat (first | (with_reducible exact Below.refl _ _) | (with_reducible exact Own.b own3) | (with_reducible exact Own.b own2) | (with_reducible exact Own.b own1) | (with_reducible refine Below.drew ?_) | (with_reducible refine below_alloc ?_ _)))))
            (first | (refine Ty.stepAppend (w0 := w) tyPl (by rfl) _ _ (by rfl) u3 cur (by rfl) (by (repeat (first | (with_reducible assumption) | (with_reducible exact Own.nil (by (repeat (first | (with_reducible exact Below.refl _ _) | (with_reducible exact Own.b own3) | (with_reducible exact Own.b own2) | (with_reducible exact Own.b own1) | (with_reducible refine Below.drew ?_) | (with_reducible refine below_alloc ?_ _)))) _ (by simp)) | (with_reducible refine Own.drew ?_) | (with_reducible refine Own.alloc ?_ _)))) _ 1 1 [[.int .i64 (j : Int), .int .i64 y, .int .i64 z]] (by rfl) (by (repeat (first | (with_reducible assumption) | (with_reducible exact Src.lit _ _ _ _ (by simp) rfl (by simp [Value.oneCell'])) | (with_reducible refine Src.drew ?_) | (with_reducible refine Src.alloc ?_ _) | (with_reducible refine Src.grown ?_ (by with_reducible assumption) (by simp [Value.ownBlock]))))) HLL.out ?_; intro v5 w5 own5 hg5 hat5))
          all_goals
            have hrow5 : Row wo.heap.size 3 1 w5 (.slice (some ⟨g, 0, none⟩) O.length c2) (ixs O) := by
              refine Row.kept ?_ hg5 HNE.out
              repeat (first | (with_reducible exact hrow) | (with_reducible refine Row.drew ?_) | (with_reducible refine Row.alloc ?_ _))
            have HNE5 := Lib.hid (show (Value.slice (some ⟨g, 0, none⟩) O.length c2).ownBlock = none ∨ (Value.slice (some ⟨g, 0, none⟩) O.length c2).ownBlock ≠ v5.ownBlock by
              rcases hat5 with e | e
              · rw [e]; exact HNE.out
              · rw [e]; exact .inr fun e2 => by have := HGT.out; simp [Value.ownBlock] at e2; omega)
            clear hat5 hg5 own hrow
            go_wp2
            go_roundw
            case rel => exact ⟨j + 1, by omega, by go_num, by rw [HSS.out]; exact own5, hrow5, HNE5.out⟩
            case measure => simp [intOf]; omega
        · go_wp2
          obtain rfl : j = O.length := by omega
          rw [HFA.out] at own
          go_roundw
          case rel => exact ⟨k + 1, by omega, by go_num, by rw [HS.out]; exact own⟩
          case measure => simp [intOf]; omega
    · go_wp2
      go_ret
      obtain rfl : k = xs.length := by omega
      have e : (xs.map Ht.k).take xs.length = xs.map Ht.k := List.take_of_length_le (by simp)
      rw [e] at own
      exact ⟨_, rfl, own.1, own.2⟩
end Go.Proofs.Ytabgmbmaakglkaa
