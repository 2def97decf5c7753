/- The walks of the reference's orders at a place. -/
import Derived.Test.YtbeonigmcbipeaaOrdA
import Derived.Deep.DeepCutAuto
import Derived.Deep.CutBlock
namespace Go.Proofs.Ytbeonigmcbipeaa
open Go Go.RowKit

def keyB (leg : Bool) (P : Nat) : PK → Int := if leg then keyL P else keyS P
set_option maxHeartbeats 4000000 in
theorem l19Leg_any (p : Pas) (P : Nat) (leg : Bool) (w : World) (hin : p.In w) (hP : P < p.k.splits.length) (hok : ∀ i, i < p.k.splits.length → 1 ≤ atP p.k i ∧ atP p.k i ≤ 36000) (h3 : P ≤ 3) :
    Calls Try.prog 82 #[p.val, .int .i64 P, .bool leg] w fun e w' => e = .returned (.int .i64 (keyB leg P p.k)) ∧ Below w.heap.size w w' := by
  have hpl := hin.len
  obtain ⟨⟨r, sp⟩, A, n, c⟩ := p
  simp only at hpl hP hok
  subst hpl
  obtain ⟨b1, o1, ha, hcell⟩ := Pas.look hin (P := P) hP
  have hlow := hin.at (pl := P - 1) (by simp only; omega)
  simp only at ha
  subst ha
  obtain ⟨b2, o2, ha2, hcl2⟩ := hlow
  simp only [Option.some.injEq, Addr.mk.injEq, and_true] at ha2
  obtain ⟨rfl, rfl⟩ := ha2
  show Calls Try.prog 82 #[.agg #[.int .i64 r, .slice (some ⟨b1, o1, none⟩) sp.length c], .int .i64 P, .bool leg] w _
  have hW : Below w.heap.size w (w.alloc (.cells #[.int .i64 r, .slice (some ⟨b1, o1, none⟩) sp.length c] 49)) := below_alloc (Below.refl _ _) _
  have hcn := Pas.cellsNew w ⟨⟨r, sp⟩, some ⟨b1, o1, none⟩, sp.length, c⟩ 49
  simp only at hcn
  have hcs : ∀ s : After (w.alloc (.cells #[.int .i64 r, .slice (some ⟨b1, o1, none⟩) sp.length c] 49)), s.w'.cell? ⟨b1, o1 + P, none⟩ = some (.int .i64 (atP ⟨r, sp⟩ P)) := fun s => hcell ⟨s.w', step_ hW (Nat.le_refl _) s.hb⟩
  have hct : ∀ s : After (w.alloc (.cells #[.int .i64 r, .slice (some ⟨b1, o1, none⟩) sp.length c] 49)), s.w'.cell? ⟨b1, o1 + (P - 1), none⟩ = some (.int .i64 (atP ⟨r, sp⟩ (P - 1))) := fun s => After.keep hcl2 ⟨s.w', step_ hW (Nat.le_refl _) s.hb⟩
  have hb1 := hok P hP
  have hb2 := hok (P - 1) (by omega)
  have hcs0 := hcs ⟨_, Below.refl _ _⟩
  have HW := Lib.hid hW
  have HK := Lib.hid (show keyB leg P ⟨r, sp⟩ = if leg = true ∧ 0 < P then atP ⟨r, sp⟩ P - atP ⟨r, sp⟩ (P - 1) else atP ⟨r, sp⟩ P by
    unfold keyB keyL keyS
    cases leg with
    | false => simp
    | true => by_cases h0 : P = 0
              · subst h0; simp
              · have : 0 < P := by omega
                simp [h0, this])
  clear hin hcell hcl2 hok hW
  obtain ⟨t, ht⟩ : ∃ t, t = atP ⟨r, sp⟩ P := ⟨_, rfl⟩
  obtain ⟨u, hu⟩ : ∃ u, u = atP ⟨r, sp⟩ (P - 1) := ⟨_, rfl⟩
  rw [← ht] at hcs hcs0 hb1 HK
  rw [← hu] at hct hb2 HK
  obtain ⟨hb11, hb12⟩ := hb1
  obtain ⟨hb21, hb22⟩ := hb2
  clear ht hu
  rw [HK.out]
  clear HK
  cases leg with
  | false =>
    rw [if_neg (by simp)]
    clear hct hcs hcn
    go_enter Try.func82, Try.ntmps82
    go_wp2
    go_ret
    exact ⟨rfl, HW.out⟩
  | true =>
    by_cases h0 : 0 < P
    · rw [if_pos ⟨rfl, h0⟩]
      have hP1 : 1 ≤ P := h0
      clear hcs0
      go_enter Try.func82, Try.ntmps82
      go_wp2
      refine region_after (by kernel_rfl) (by kernel_rfl) ?_
      repeat (any_goals (first | go_big_quiet_step (fail)  | quiet_step (fail)))
      refine wpQuiet_nil ?_
      intro s
      go_wp2
      go_ret
      exact ⟨rfl, step_ HW.out (Nat.le_refl _) s.hb⟩
    · obtain rfl : P = 0 := by omega
      rw [if_neg (by simp)]
      simp only [Nat.add_zero] at hcs0
      clear hct hcs hcn
      go_enter Try.func82, Try.ntmps82
      go_wp2
      go_ret
      exact ⟨rfl, HW.out⟩

set_option maxRecDepth 100000 in
set_option maxHeartbeats 8000000 in
theorem l19Order_any (leg : Bool) (xs : List Pas) (P : Nat) (v : Value) (w : World) (h : PasS w v xs) (hlen : xs.length ≤ 10) (hgd : ∀ p ∈ xs, ∀ i, i < p.k.splits.length → 1 ≤ atP p.k i ∧ atP p.k i ≤ 36000) (h3 : P ≤ 3) :
    Calls Try.prog 66 #[v, .int .i64 P, .bool leg] w fun e w' => ∃ r, e = .returned r ∧ Row w.heap.size 3 1 w' r (((ordK (keyB leg P) P xs).map fun x => x.k.runner).map ints) ∧ Below w.heap.size w w' := by
  have HI := Lib.hid h.2
  have HGD := Lib.hid hgd
  obtain ⟨A, c, rfl, hc, hm, hk⟩ := h.1.open_
  clear h hgd
  go_enter Try.func66, Try.ntmps66
  go_upto_block 0 with fail
  go_cut [7] (fun ov wx => Own w 49 2 wx ov ((ordK (keyB leg P) P xs).map Pas.lst))
  case first =>
    go_wp2_with fail
    go_loopw [7, 8] (fun o i wr => ∃ k : Nat, k ≤ xs.length ∧ i = .int .i64 k ∧ Own w 49 2 wr o ((ordK (keyB leg P) P (xs.take k)).map Pas.lst))
      (fun _ i _ => xs.length - (intOf i).toNat)
    case atStart => exact ⟨0, Nat.zero_le _, rfl, Own.nil (Below.refl _ _) _ rfl⟩
    case round =>
      obtain ⟨k, hkl, rfl, own⟩ := hrel
      by_cases hlt : k < xs.length
      · obtain ⟨b, off, rfl, hat⟩ := flat_at hk (by omega)
        have hcs := Pas.cells (rangeAt_below (hat k hlt) own.b)
        have HR := Lib.hid (rangeAt_below (hat k hlt) own.b)
        have HS := Lib.hid (ordK_take (keyB leg P) P xs k hlt)
        have HXI := Lib.hid ((HI.out _ (List.getElem_mem hlt)).below own.b)
        have HXG := Lib.hid (HGD.out _ (List.getElem_mem hlt))
        obtain ⟨x, hx⟩ : ∃ x, x = xs[k] := ⟨_, rfl⟩
        rw [← hx] at hcs HR HS HXI HXG
        have HXL := Lib.hid HXI.out.len
        rw [HXL.out] at hcs
        clear hat hk hx
        by_cases hr : P < x.k.splits.length
        · have HRR := Lib.hid hr
          have hspn : ¬ x.k.splits.length ≤ P := by omega
          have HPI := Lib.hid (show ∀ p ∈ ordK (keyB leg P) P (xs.take k), p.In wr ∧ P < p.k.splits.length ∧ ∀ i, i < p.k.splits.length → 1 ≤ atP p.k i ∧ atP p.k i ≤ 36000 from fun p hp => by
            obtain ⟨h1, h2⟩ := ordK_mem p hp
            have h1 := List.mem_of_mem_take h1
            exact ⟨(HI.out p h1).below own.b, h2, HGD.out p h1⟩)
          obtain ⟨pre, hpre⟩ : ∃ pre, pre = ordK (keyB leg P) P (xs.take k) := ⟨_, rfl⟩
          have hpl : pre.length ≤ 10 := by rw [hpre]; have := ordK_len (keyB leg P) P (xs.take k); simp at this; omega
          rw [← hpre] at own HS HPI
          have hs1 := HS.out
          rw [if_pos (by simpa [wasAt] using hr)] at hs1
          have HS1 := Lib.hid hs1
          clear hs1 hpre HS
          obtain ⟨A2, c2, rfl, hc2, hm2⟩ := own.1.parts
          simp only [List.length_map] at own hc2 ⊢
          have hrow := own.1
          obtain ⟨wo, rfl⟩ : ∃ wo : World, wo = wr := ⟨_, rfl⟩
          obtain ⟨kx, hkx⟩ : ∃ kx, kx = keyB leg P x.k := ⟨_, rfl⟩
          have HKX := Lib.hid hkx
          have HCX := Lib.hid (fun s : After wo => l19Leg_any x P leg s.w' (HXI.out.below s.hb) hr HXG.out h3)
          rw [← hkx] at HCX
          clear hkx
          go_upto_block 2 with fail
          go_cut [9] (fun kv wx => ∃ j : Nat, j = placeIn (ltK (keyB leg P)) pre x pre.length ∧ j ≤ pre.length ∧ kv = .int .i64 j ∧ Below wo.heap.size wo wx)
          case first =>
            go_wp2_with fail
            go_loopw [9] (fun jv wi => ∃ j : Nat, j ≤ pre.length ∧ jv = .int .i64 j ∧ Hid (∀ p (h : p < pre.length), j ≤ p → ltK (keyB leg P) x pre[p] = true) ∧ Below wo.heap.size wo wi)
              (fun jv _ => (intOf jv).toNat)
            case atStart => exact ⟨pre.length, Nat.le_refl _, rfl, fun p h hp => absurd h (by omega), Below.refl _ _⟩
            case round =>
              obtain ⟨j, hjl, rfl, HP, hb⟩ := hrel
              have hxr := rangeAt_below HR.out hb
              by_cases h0 : 0 < j
              · obtain ⟨g, cap, he, hbg, hg, hcap⟩ := hrow.form (by simp; omega)
                simp only [Value.slice.injEq] at he
                obtain ⟨rfl, hq, rfl⟩ := he
                clear hq
                have hjp : j - 1 < pre.length := by omega
                have hr1 := hrow.range (k := j - 1) (by simpa using hjp)
                rw [List.getElem_map] at hr1
                have hyi := HPI.out _ (List.getElem_mem hjp)
                obtain ⟨y, hy⟩ : ∃ y, y = pre[j - 1] := ⟨_, rfl⟩
                rw [← hy] at hr1 hyi
                have hyr := rangeAt_below hr1 hb
                have HY := Lib.hid hy
                have HCY := Lib.hid (show ∀ s : After wr, Calls Try.prog 82 #[.agg #[.int .i64 y.k.runner, .slice y.a y.n y.c], .int .i64 P, .bool leg] s.w' fun e w' => e = .returned (.int .i64 (keyB leg P y.k)) ∧ Below s.w'.heap.size s.w' w' from fun s => l19Leg_any y P leg s.w' (hyi.1.below (step_ hb (Nat.le_refl _) s.hb)) hyi.2.1 hyi.2.2 h3)
                have HCX2 := Lib.hid (show ∀ s : After wr, Calls Try.prog 82 #[.agg #[.int .i64 x.k.runner, .slice x.a x.n x.c], .int .i64 P, .bool leg] s.w' fun e w' => e = .returned (.int .i64 kx) ∧ Below s.w'.heap.size s.w' w' from fun s => HCX.out ⟨s.w', step_ hb (Nat.le_refl _) s.hb⟩)
                obtain ⟨ky, hky⟩ : ∃ ky, ky = keyB leg P y.k := ⟨_, rfl⟩
                rw [← hky] at HCY
                have HKY := Lib.hid hky
                have hz1 : (0 : Int) ≤ (j : Int) - 1 := by omega
                have hz2 : (j : Int) - 1 < (pre.length : Int) := by omega
                have h0' : decide (0 < j) = true := by simpa using h0
                have HB := Lib.hid hb
                clear hy hr1 hyi hky hb hcs
                go_wp2
                refine region_after (by kernel_rfl) (by kernel_rfl) ?_
                repeat (any_goals (first | go_big_quiet_step ((go_at_call 82; first | (with_reducible exact Calls.after (v := .int .i64 ky) _ (HCY.out _)) | (with_reducible exact Calls.after (v := .int .i64 kx) _ (HCX2.out _)))) | (refine Pas.qloadImpl rfl _ rfl g ((j - 1) * 2) rfl y hyr ?_) | (refine Pas.qloadImpl rfl _ rfl b (off + k * 2) rfl x hxr ?_) | quiet_step ((go_at_call 82; first | (with_reducible exact Calls.after (v := .int .i64 ky) _ (HCY.out _)) | (with_reducible exact Calls.after (v := .int .i64 kx) _ (HCX2.out _)))) | (refine wpQuiet_step (fun K hK => ?_); go_simp; split <;> (refine hK _ ?_; clear hK K))))
                all_goals (refine wpQuiet_nil ?_; intro s)
                all_goals go_wp2
                all_goals first
                  | (go_meet
                     exact ⟨j, (placeIn_is (ltK (keyB leg P)) hjl HP.out (.inr ⟨hjp, by rw [← HY.out]; simp only [ltK, ← HKX.out, ← HKY.out]; simp; omega⟩)).symm, hjl, rfl, step_ HB.out (Nat.le_refl _) s.hb⟩)
                  | (go_roundw
                     case rel => exact ⟨j - 1, by omega, by congr 1; omega, fun p h hp => by
                       by_cases e : p = j - 1
                       · subst e; rw [← HY.out]; simp only [ltK, ← HKX.out, ← HKY.out]; simp; omega
                       · exact HP.out p h (by omega), step_ HB.out (Nat.le_refl _) s.hb⟩
                     case measure => simp [intOf]; omega)
              · obtain rfl : j = 0 := by omega
                go_wp2
                refine region_after (by kernel_rfl) (by kernel_rfl) ?_
                repeat (any_goals (first | go_big_quiet_step (fail)  | quiet_step (fail) | (refine wpQuiet_step (fun K hK => ?_); go_simp; split <;> (refine hK _ ?_; clear hK K))))
                all_goals (refine wpQuiet_nil ?_; intro s)
                all_goals go_wp2
                go_meet
                exact ⟨0, (placeIn_is (ltK (keyB leg P)) (Nat.zero_le _) HP.out (.inl rfl)).symm, Nat.zero_le _, rfl, step_ hb (Nat.le_refl _) s.hb⟩
          case rest =>
            obtain ⟨j, hj, hjl, rfl, hb⟩ := hcut
            have HJ := Lib.hid hj
            clear hj
            have ownc := own.below hb
            have hsrc := Row.src ownc.1 Pas.lst_len Pas.one
            have hoT := hsrc.take hjl
            have HJL := Lib.hid hjl
            have HKEEP := Lib.hid (show ∀ W', Below wc.heap.size wc W' → W'.cell? ⟨b, off + k * 2, none⟩ = some (.int .i64 x.k.runner) ∧ W'.cell? ⟨b, off + k * 2 + 1, none⟩ = some (.slice x.a x.n x.c) from fun W' hW' => Pas.cells (rangeAt_below (rangeAt_below HR.out hb) hW'))
            have hcb := HKEEP.out wc (Below.refl _ _)
            have HL1 := Lib.hid (show ([] : List (List Value)).length + j ≤ 2147483648 by simp; omega)
            have HL2 := Lib.hid (show (([] : List (List Value)) ++ List.take j (List.map Pas.lst pre)).length + 1 ≤ 2147483648 by rw [List.nil_append, List.length_take, List.length_map, Nat.min_eq_left hjl]; omega)
            have HL3 := Lib.hid (show ((([] : List (List Value)) ++ List.take j (List.map Pas.lst pre)) ++ [[Value.int .i64 x.k.runner, .slice x.a x.n x.c]]).length + (pre.length - j) ≤ 2147483648 by rw [List.nil_append, List.length_append, List.length_take, List.length_map, Nat.min_eq_left hjl]; simp; omega)
            have hk0 : (0 : Int) ≤ (j : Int) := by omega
            have hk1 : (j : Int) ≤ (pre.length : Int) := by omega
            have hk2 : (j : Int) ≤ (c2 : Int) := by omega
            have hoD := Src.cut hsrc HJL.out hc2
            clear hcs
            go_wp2_with fail
            go_region_held3 (fun w' => w'.cell? ⟨b, off + k * 2, none⟩ = some (.int .i64 x.k.runner) ∧ w'.cell? ⟨b, off + k * 2 + 1, none⟩ = some (.slice x.a x.n x.c))
              (exact HKEEP.out _ (by (repeat (first | (with_reducible exact Below.refl _ _) | (with_reducible exact Own.b own3) | (with_reducible exact Own.b own2) | (with_reducible exact Own.b own1) | (with_reducible refine Below.drew ?_) | (with_reducible refine below_alloc ?_ _)))))
              (first
                | (refine Ty.stepAppendOld (w0 := wc) tyPas (by rfl) _ _ (by rfl) (.slice (some ⟨_, 0, none⟩) 0 0) [] (by rfl) (by (repeat (first | (with_reducible assumption) | (with_reducible exact Own.nil (by (repeat (first | (with_reducible exact Below.refl _ _) | (with_reducible exact Own.b own3) | (with_reducible exact Own.b own2) | (with_reducible exact Own.b own1) | (with_reducible refine Below.drew ?_) | (with_reducible refine below_alloc ?_ _)))) _ (by simp)) | (with_reducible refine Own.drew ?_) | (with_reducible refine Own.alloc ?_ _)))) A2 j _ _ (by rfl) hoT HL1.out ?_; intro v1 w1 own1 hg1 hat1)
                | (refine Ty.stepAppend (w0 := wc) tyPas (by rfl) _ _ (by rfl) v1 _ (by rfl) (by (repeat (first | (with_reducible assumption) | (with_reducible exact Own.nil (by (repeat (first | (with_reducible exact Below.refl _ _) | (with_reducible exact Own.b own3) | (with_reducible exact Own.b own2) | (with_reducible exact Own.b own1) | (with_reducible refine Below.drew ?_) | (with_reducible refine below_alloc ?_ _)))) _ (by simp)) | (with_reducible refine Own.drew ?_) | (with_reducible refine Own.alloc ?_ _)))) _ 1 1 [[.int .i64 x.k.runner, .slice x.a x.n x.c]] (by rfl) (by (repeat (first | (with_reducible assumption) | (with_reducible exact Src.lit _ _ _ _ (by simp) rfl (by simp [Value.oneCell'])) | (with_reducible refine Src.drew ?_) | (with_reducible refine Src.alloc ?_ _) | (with_reducible refine Src.grown ?_ (by with_reducible assumption) (by simp [Value.ownBlock]))))) HL2.out ?_; intro v2 w2 own2 hg2 hat2)
                | (refine Ty.stepAppendOld (w0 := wc) tyPas (by rfl) _ _ (by rfl) v2 _ (by rfl) (by (repeat (first | (with_reducible assumption) | (with_reducible exact Own.nil (by (repeat (first | (with_reducible exact Below.refl _ _) | (with_reducible exact Own.b own3) | (with_reducible exact Own.b own2) | (with_reducible exact Own.b own1) | (with_reducible refine Below.drew ?_) | (with_reducible refine below_alloc ?_ _)))) _ (by simp)) | (with_reducible refine Own.drew ?_) | (with_reducible refine Own.alloc ?_ _)))) _ _ _ _ (by rfl) hoD HL3.out ?_; intro v3 w3 own3 hg3 hat3))
            all_goals
              have hown : Own w 49 2 w3 v3 ((putIn (ltK (keyB leg P)) pre x).map Pas.lst) := by
                refine ⟨?_, step_ ownc.2 (Nat.le_refl _) own3.2⟩
                have := own3.1.mono ownc.2.size
                simpa [putIn, ← HJ.out, Pas.lst] using this
              clear own3 own2 own1
              go_wp2
              go_roundw
              case rel => exact ⟨k + 1, by omega, by go_num, by rw [HS1.out]; exact hown⟩
              case measure => simp [intOf]; omega
        · have hs1 := HS.out
          rw [if_neg (by simp [wasAt]; omega)] at hs1
          have HS1 := Lib.hid hs1
          clear hs1 HS
          go_wp2
          go_roundw
          case rel => exact ⟨k + 1, by omega, by go_num, by rw [HS1.out]; exact own⟩
          case measure => simp [intOf]; omega
      · go_wp2
        go_meet
        obtain rfl : k = xs.length := by omega
        rw [List.take_length] at own
        exact own
  case rest =>
    have own := hcut
    have HLO := Lib.hid (ordK_len (keyB leg P) P xs)
    obtain ⟨l, hl⟩ : ∃ l, l = ordK (keyB leg P) P xs := ⟨_, rfl⟩
    rw [← hl] at own HLO
    have HLE := Lib.hid hl
    have hll : l.length ≤ 10 := by have := HLO.out; omega
    obtain ⟨A2, c2, rfl, hc2, hm2⟩ := own.1.parts
    simp only [List.length_map] at own hc2 ⊢
    have hsl : Sl (Flat Pas.lst) 2 wc (.slice A2 l.length c2) l := Sl.of_flat own.1
    obtain ⟨A3, c3, hv3, _, _, hk3⟩ := hsl.open_
    simp only [Value.slice.injEq] at hv3
    obtain ⟨rfl, _, rfl⟩ := hv3
    have ownN : Own wc 3 1 (wc.alloc (.cells #[] 3)) (.slice (some ⟨wc.heap.size, 0, none⟩) 0 0) [] := Own.nil (Below.refl _ _) _ rfl
    have HBC := Lib.hid own.2
    clear hl hcut hsl own
    go_wp2_with fail
    go_loopw [10, 11] (fun s i wr => ∃ k : Nat, k ≤ l.length ∧ i = .int .i64 k ∧ Own wc 3 1 wr s (((l.take k).map fun x => x.k.runner).map ints))
      (fun _ i _ => l.length - (intOf i).toNat)
    case atStart => exact ⟨0, Nat.zero_le _, rfl, ownN⟩
    case round =>
      clear ownN
      obtain ⟨k, hkl, rfl, own⟩ := hrel
      by_cases hlt : k < l.length
      · obtain ⟨g, off, rfl, hat⟩ := flat_at hk3 (by omega)
        have hcn := Pas.cells (rangeAt_below (hat k hlt) own.2)
        have HS := Lib.hid (show ((l.take (k + 1)).map fun x => x.k.runner).map ints = ((l.take k).map fun x => x.k.runner).map ints ++ [ints l[k].k.runner] by rw [List.take_succ_eq_append_getElem hlt, List.map_append, List.map_append]; rfl)
        have HLL := Lib.hid (show (((l.take k).map fun x => x.k.runner).map ints).length + 1 ≤ 2147483648 by simp; omega)
        obtain ⟨pl, hpl⟩ : ∃ pl, pl = ((l.take k).map fun x => x.k.runner).map ints := ⟨_, rfl⟩
        rw [← hpl] at own HS HLL
        obtain ⟨x, hx⟩ : ∃ x, x = l[k] := ⟨_, rfl⟩
        rw [← hx] at hcn HS
        have HO2 := Lib.hid own
        clear hk3 hat hx hpl own
        go_wp2_with (at_builtin; refine tyInt.append rfl _ _ rfl wc.heap.size _ _ rfl (HO2.out.alloc _).1 _ 1 1 [ints x.k.runner] rfl (Src.lit _ _ (ints x.k.runner) _ (by simp) rfl (ints_one _)) HLL.out (by simp; exact Nat.le_succ_of_le HO2.out.2.size) ?_; intro o4 w4 hrow4 hg4 _)
        have HB4 := Lib.hid ((HO2.out.alloc (.cells #[.int .i64 x.k.runner] 3)).2.grown hg4 (HO2.out.alloc (.cells #[.int .i64 x.k.runner] 3)).2.size (fun q hq => (HO2.out.1.lt q hq).1))
        go_roundw
        case rel => exact ⟨k + 1, by omega, by go_num, by rw [HS.out]; exact ⟨hrow4, HB4.out⟩⟩
        case measure => simp [intOf]; omega
      · obtain rfl : k = l.length := by omega
        rw [List.take_length] at own
        have HO := Lib.hid (show Row w.heap.size 3 1 wr _ (((ordK (keyB leg P) P xs).map fun x => x.k.runner).map ints) from by rw [← HLE.out]; exact own.1.mono HBC.out.size)
        have hb := step_ HBC.out (Nat.le_refl _) own.2
        clear own
        go_wp2
        go_ret
        exact ⟨_, rfl, HO.out, hb⟩
theorem keyB_is (leg : Bool) (P : Nat) : keyB leg P = if leg then keyL P else keyS P := rfl
set_option maxHeartbeats 2000000 in
theorem ord_29 (xs : List Pas) (ks : List PK) (v : Value) (p : Int) (w : World) (hks : xs.map Pas.k = ks) (h : PasS w v xs) (_ : I64 p) :
    Calls Try.prog 29 #[v, .int .i64 p] w fun e w' => ∃ r, e = .returned (.tuple #[r, .bool (askP ks p)]) ∧ Row w.heap.size 3 1 w' r ((ordV false ks p).map ints) ∧ Below w.heap.size w w' := by
  subst hks
  by_cases ha : askP (xs.map Pas.k) p = true
  rotate_left
  · have ha' : askP (xs.map Pas.k) p = false := by simpa using ha
    have HV := Lib.hid (ordV_no (leg := false) ha')
    rw [HV.out]
    have HQ := Lib.hid ha'
    clear ha ha'
    go_enter Try.func29, Try.ntmps29
    go_wp2_with (go_at_call 57; refine (l19Asked_any xs p _ _ h).mono ?_; rintro e w2 ⟨rfl, hb2⟩; rw [HQ.out])
    have own := Own.nil (e := 3) (sz := 1) hb2 _ rfl
    go_ret2
    exact ⟨_, by (rw [HQ.out] <;> rfl), own.1, own.2⟩
  obtain ⟨hg, hp0, hp3⟩ := askP_place ha
  obtain ⟨P, rfl⟩ : ∃ P : Nat, p = P := ⟨p.toNat, by omega⟩
  have hP3 : P ≤ 3 := by omega
  have HGA := Lib.hid (good_at hg)
  have hlen := goodPs_len hg
  have HV := Lib.hid (ordV_yes (leg := false) ha)
  have HQ := Lib.hid ha
  have HSL := Lib.hid h
  clear ha hg hp0 hp3 h
  go_enter Try.func29, Try.ntmps29
  go_wp2_with fail
  refine (l19Asked_any xs P _ _ HSL.out).mono ?_
  rintro e w1 ⟨rfl, hb1⟩
  rw [HQ.out]
  go_wp2_with fail
  refine (l19Order_any false xs P _ _ (HSL.out.below hb1) hlen HGA.out hP3).mono ?_
  rintro e w2 ⟨o, rfl, row, hb2⟩
  have hB2 := step_ hb1 (Nat.le_refl _) hb2
  go_wp2
  go_ret2
  exact ⟨_, by (rw [HQ.out] <;> rfl), by rw [HV.out]; exact row.mono hb1.size, hB2⟩
set_option maxHeartbeats 2000000 in
theorem ord_34 (xs : List Pas) (ks : List PK) (v : Value) (p : Int) (w : World) (hks : xs.map Pas.k = ks) (h : PasS w v xs) (_ : I64 p) :
    Calls Try.prog 34 #[v, .int .i64 p] w fun e w' => ∃ r, e = .returned (.tuple #[r, .bool (askP ks p)]) ∧ Row w.heap.size 3 1 w' r ((ordV true ks p).map ints) ∧ Below w.heap.size w w' := by
  subst hks
  by_cases ha : askP (xs.map Pas.k) p = true
  rotate_left
  · have ha' : askP (xs.map Pas.k) p = false := by simpa using ha
    have HV := Lib.hid (ordV_no (leg := true) ha')
    rw [HV.out]
    have HQ := Lib.hid ha'
    clear ha ha'
    go_enter Try.func34, Try.ntmps34
    go_wp2_with (go_at_call 57; refine (l19Asked_any xs p _ _ h).mono ?_; rintro e w2 ⟨rfl, hb2⟩; rw [HQ.out])
    have own := Own.nil (e := 3) (sz := 1) hb2 _ rfl
    go_ret2
    exact ⟨_, by (rw [HQ.out] <;> rfl), own.1, own.2⟩
  obtain ⟨hg, hp0, hp3⟩ := askP_place ha
  obtain ⟨P, rfl⟩ : ∃ P : Nat, p = P := ⟨p.toNat, by omega⟩
  have hP3 : P ≤ 3 := by omega
  have HGA := Lib.hid (good_at hg)
  have hlen := goodPs_len hg
  have HV := Lib.hid (ordV_yes (leg := true) ha)
  have HQ := Lib.hid ha
  have HSL := Lib.hid h
  clear ha hg hp0 hp3 h
  go_enter Try.func34, Try.ntmps34
  go_wp2_with fail
  refine (l19Asked_any xs P _ _ HSL.out).mono ?_
  rintro e w1 ⟨rfl, hb1⟩
  rw [HQ.out]
  go_wp2_with fail
  refine (l19Order_any true xs P _ _ (HSL.out.below hb1) hlen HGA.out hP3).mono ?_
  rintro e w2 ⟨o, rfl, row, hb2⟩
  have hB2 := step_ hb1 (Nat.le_refl _) hb2
  go_wp2
  go_ret2
  exact ⟨_, by (rw [HQ.out] <;> rfl), by rw [HV.out]; exact row.mono hb1.size, hB2⟩
theorem spec_OrderAt (xs : List Pas) (ks : List PK) (v : Value) (p : Int) (w : World) (hks : xs.map Pas.k = ks) (h : PasS w v xs) (hp : I64 p) :
    Calls Try.prog 29 #[v, .int .i64 p] w fun e w' => ∃ r, e = .returned (.tuple #[r, .bool (askP ks p)]) ∧ Row w.heap.size 3 1 w' r ((ordV false ks p).map ints) ∧ Below w.heap.size w w' := ord_29 xs ks v p w hks h hp
theorem spec_LegOrder (xs : List Pas) (ks : List PK) (v : Value) (p : Int) (w : World) (hks : xs.map Pas.k = ks) (h : PasS w v xs) (hp : I64 p) :
    Calls Try.prog 34 #[v, .int .i64 p] w fun e w' => ∃ r, e = .returned (.tuple #[r, .bool (askP ks p)]) ∧ Row w.heap.size 3 1 w' r ((ordV true ks p).map ints) ∧ Below w.heap.size w w' := ord_34 xs ks v p w hks h hp
end Go.Proofs.Ytbeonigmcbipeaa
