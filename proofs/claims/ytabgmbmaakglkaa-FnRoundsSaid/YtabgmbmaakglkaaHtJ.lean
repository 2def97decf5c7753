/- The walk of the reference's sort of places. No condition. -/
import Derived.Test.YtabgmbmaakglkaaHtI
import Derived.Deep.MidRow
namespace Go.Proofs.Ytabgmbmaakglkaa
open Go Go.RowKit

theorem putAllB_take (pl : Bool) (xs : List Fns) (k : Nat) (h : k < xs.length) : putAll (ltB pl) (xs.take (k + 1)) = putIn (ltB pl) (putAll (ltB pl) (xs.take k)) xs[k] := putAll_take _ xs k h
theorem ltB_is (pl : Bool) (xp xt xr yp yt yr : Int) : ltB pl ⟨xp, xt, xr⟩ ⟨yp, yt, yr⟩ = (if pl && (yp != xp) then decide (xp < yp) else (decide (xt < yt) || (xt == yt && decide (xr < yr)))) := by
  cases pl with
  | false => simp [ltB, ltTR]; rfl
  | true =>
    by_cases e : yp = xp
    · subst e; simp [ltB, ltPTR, ltTR]; rfl
    · have h : (yp != xp) = true := by simpa using e
      simp only [h, Bool.and_self, if_true]
      simp only [ltB, if_true, ltPTR]
      rw [Bool.eq_iff_iff]
      simp
      omega

/-- Nothing old has turned. -/
def Bel (w W : World) : Prop := Below w.heap.size w W
/-- Two variables laid in either order. -/
structure TwoAt (w : World) (y x : Fns) (W : World) (p q : Nat) : Prop where
  y0 : W.cell? ⟨p, 0, none⟩ = some (.int .i64 y.place)
  y1 : W.cell? ⟨p, 1, none⟩ = some (.int .i64 y.time)
  y2 : W.cell? ⟨p, 2, none⟩ = some (.int .i64 y.runner)
  x0 : W.cell? ⟨q, 0, none⟩ = some (.int .i64 x.place)
  x1 : W.cell? ⟨q, 1, none⟩ = some (.int .i64 x.time)
  x2 : W.cell? ⟨q, 2, none⟩ = some (.int .i64 x.runner)
  b : Bel w W
theorem twoAt_one (w : World) (e : TypeId) (y x : Fns) : TwoAt w y x ((w.alloc (.cells #[.int .i64 y.place, .int .i64 y.time, .int .i64 y.runner] e)).alloc (.cells #[.int .i64 x.place, .int .i64 x.time, .int .i64 x.runner] e)).drew w.heap.size (w.heap.size + 1) := by
  have h1 := ((LitAt.new w e y.S w.heap.size rfl).alloc (.cells x.S.toArray e)).drew.range
  have h2 := (LitAt.new (w.alloc (.cells y.S.toArray e)) e x.S (w.heap.size + 1) (by simp)).drew.range
  have e1 := Fns.cellsS h1
  have e2 := Fns.cellsS h2
  simp only [Nat.zero_add] at e1 e2
  exact ⟨e1.1, e1.2.1, e1.2.2, e2.1, e2.2.1, e2.2.2, (below_alloc (below_alloc (Below.refl _ _) _) _).drew⟩
theorem TwoAt.swap {w : World} {y x : Fns} {W : World} {p q : Nat} (h : TwoAt w y x W p q) : TwoAt w x y W q p := ⟨h.x0, h.x1, h.x2, h.y0, h.y1, h.y2, h.b⟩
theorem joinTwo {C : Prop} {F P : World → Nat → Nat → Prop} (h : (∀ W p q, F W p q → P W p q) → C) (k : ∀ W p q, F W p q → P W p q) : C := h k

set_option maxRecDepth 100000 in
set_option maxHeartbeats 8000000 in
theorem l18Sort_any (xs : List Fns) (pl : Bool) (v : Value) (w : World) (h : Sl (Flat Fns.S) 3 w v xs) (hl : xs.length ≤ 24) :
    Calls Try.prog 63 #[v, .bool pl] w fun e w' => ∃ r, e = .returned r ∧ Row w.heap.size 80 3 w' r ((putAll (ltB pl) xs).map Fns.S) ∧ Below w.heap.size w w' := by
  obtain ⟨A, c, rfl, hc, hm, hk⟩ := h.open_
  clear h
  have HO0 := Lib.hid (show Own w 80 3 (w.alloc (.cells #[] 80)) (.slice (some ⟨w.heap.size, 0, none⟩) 0 0) [] from Own.nil (Below.refl _ _) _ rfl)
  go_enter Try.func63, Try.ntmps63
  go_wp2
  go_loopw [5, 6] (fun o i wr => ∃ k : Nat, k ≤ xs.length ∧ i = .int .i64 k ∧ Own w 80 3 wr o ((putAll (ltB pl) (xs.take k)).map Fns.S))
    (fun _ i _ => xs.length - (intOf i).toNat)
  case atStart => exact ⟨0, Nat.zero_le _, rfl, HO0.out⟩
  case round =>
    clear HO0
    obtain ⟨k, hkl, rfl, own⟩ := hrel
    by_cases hlt : k < xs.length
    · obtain ⟨b, off, rfl, hat⟩ := flat_at hk (by omega)
      have HR := Lib.hid (hat k hlt)
      have HS := Lib.hid (putAllB_take pl xs k hlt)
      obtain ⟨x, hx⟩ : ∃ x, x = xs[k] := ⟨_, rfl⟩
      rw [← hx] at HR HS
      obtain ⟨pre, hpre⟩ : ∃ pre, pre = putAll (ltB pl) (xs.take k) := ⟨_, rfl⟩
      have hpl : pre.length ≤ 24 := by rw [hpre, putAll_len, List.length_take]; omega
      rw [← hpre] at own HS
      clear hat hk hx hpre
      obtain ⟨A2, c2, rfl, hc2, hm2⟩ := own.1.parts
      simp only [List.length_map] at own hc2 ⊢
      have hrow := own.1
      obtain ⟨wo, rfl⟩ : ∃ wo : World, wo = wr := ⟨_, rfl⟩
      go_upto_block 2 with fail
      go_cut [7] (fun kv wx => ∃ j : Nat, j = placeIn (ltB pl) pre x pre.length ∧ j ≤ pre.length ∧ kv = .int .i64 j ∧ Below wo.heap.size wo wx)
      case first =>
        go_wp2_with fail
        go_loopw [7] (fun jv wi => ∃ j : Nat, j ≤ pre.length ∧ jv = .int .i64 j ∧ Hid (∀ p (h : p < pre.length), j ≤ p → ltB pl x pre[p] = true) ∧ Below wo.heap.size wo wi)
          (fun jv _ => (intOf jv).toNat)
        case atStart => exact ⟨pre.length, Nat.le_refl _, rfl, fun p h hp => absurd h (by omega), Below.refl _ _⟩
        case round =>
          obtain ⟨j, hjl, rfl, HP, hb⟩ := hrel
          by_cases h0 : 0 < j
          · obtain ⟨g, cap, he, hbg, hg, hcap⟩ := hrow.form (by rw [List.length_map]; omega)
            simp only [Value.slice.injEq] at he
            obtain ⟨rfl, hq, rfl⟩ := he
            clear hq hg hcap hbg
            obtain ⟨q, hq⟩ : ∃ q, j = q + 1 := ⟨j - 1, by omega⟩
            have hjp : q < pre.length := by omega
            have hr1 := hrow.range (k := q) (by simpa using hjp)
            rw [List.getElem_map] at hr1
            have hxr := rangeAt_below HR.out (step_ own.b (Nat.le_refl _) hb)
            obtain ⟨y, hy⟩ : ∃ y, y = pre[q] := ⟨_, rfl⟩
            rw [← hy] at hr1
            have hyr := rangeAt_below hr1 hb
            have HYQ := Lib.hid hy
            have HJP := Lib.hid (show j - 1 < pre.length by omega)
            have HYJ := Lib.hid (show ltB pl x pre[j - 1] = ltB pl x y by rw [hy]; congr 2; omega)
            have HB := Lib.hid hb
            have HAP := Lib.hid HP
            have HQ := Lib.hid hq
            obtain ⟨xp, xt, xr⟩ := x
            obtain ⟨yp, yt, yr⟩ := y
            have HLT := Lib.hid (ltB_is pl xp xt xr yp yt yr)
            have hwr : IntKind.i64.wrap ((j : Int) - 1) = (q : Int) := by rw [IntKind.wrap_i64]; omega
            have hz1 : (0 : Int) ≤ (q : Int) := by omega
            have hz2 : (q : Int) < (pre.length : Int) := by omega
            have hz6 : (0 : Int) ≤ (k : Int) := by omega
            have hz7 : (k : Int) < (xs.length : Int) := by omega
            have h0' : decide (0 < j) = true := by simpa using h0
            have HKEEP := Lib.hid (show ∀ W', Below wr.heap.size wr W' → _ from fun W' hW' => (show _ ∧ _ from ⟨Fns.cellsS (rangeAt_below hyr hW'), Fns.cellsS (rangeAt_below hxr hW')⟩))
            simp only at HKEEP
            have hcc := HKEEP.out wr (Below.refl _ _)
            obtain ⟨⟨hcy0, hcy1, hcy2⟩, hcx0, hcx1, hcx2⟩ := hcc
            clear hy hr1 hb HP hxr hyr hq
            go_wp2
            apply joinTwo (F := fun W p q => TwoAt wr ⟨yp, yt, yr⟩ ⟨xp, xt, xr⟩ W p q)
            · intro hk
              go_region_held3 (fun w' => (w'.cell? ⟨g, q * 3, none⟩ = some (.int .i64 yp) ∧ w'.cell? ⟨g, q * 3 + 1, none⟩ = some (.int .i64 yt) ∧ w'.cell? ⟨g, q * 3 + 2, none⟩ = some (.int .i64 yr)) ∧ w'.cell? ⟨b, off + k * 3, none⟩ = some (.int .i64 xp) ∧ w'.cell? ⟨b, off + k * 3 + 1, none⟩ = some (.int .i64 xt) ∧ w'.cell? ⟨b, off + k * 3 + 2, none⟩ = some (.int .i64 xr))
                (exact HKEEP.out _ (by (repeat (first | (with_reducible exact Below.refl _ _) | (with_reducible exact Own.b own3) | (with_reducible exact Own.b own2) | (with_reducible exact Own.b own1) | (with_reducible refine Below.drew ?_) | (with_reducible refine below_alloc ?_ _))))) (fail)
              all_goals first
                | (have HF := twoAt_one wr 80 ⟨yp, yt, yr⟩ ⟨xp, xt, xr⟩
                   simp only at HF
                   revert HF
                   generalize ((wr.alloc (.cells #[.int .i64 yp, .int .i64 yt, .int .i64 yr] 80)).alloc (.cells #[.int .i64 xp, .int .i64 xt, .int .i64 xr] 80)).drew = W2
                   generalize wr.heap.size + 1 = B_
                   generalize wr.heap.size = A_
                   intro HF
                   exact hk W2 A_ B_ HF)
                | (have HF := (twoAt_one wr 80 ⟨xp, xt, xr⟩ ⟨yp, yt, yr⟩).swap
                   simp only at HF
                   revert HF
                   generalize ((wr.alloc (.cells #[.int .i64 xp, .int .i64 xt, .int .i64 xr] 80)).alloc (.cells #[.int .i64 yp, .int .i64 yt, .int .i64 yr] 80)).drew = W2
                   generalize wr.heap.size + 1 = B_
                   generalize wr.heap.size = A_
                   intro HF
                   exact hk W2 B_ A_ HF)
            · intro W2 pA pB HF0
              have HF := Lib.hid HF0
              obtain ⟨hy0, hy1, hy2, hx0, hx1, hx2, _⟩ := HF0
              simp only at hy0 hy1 hy2 hx0 hx1 hx2
              clear hcy0 hcy1 hcy2 hcx0 hcx1 hcx2 HKEEP
              cases pl with
              | false =>
                cases hb1 : decide (xt < yt) with
                | true =>
                  go_wp2
                  go_roundw
                  case rel => exact ⟨q, by have := HQ.out; omega, rfl, fun p h hp => by
                    by_cases e : p = q
                    · subst e; rw [← HYQ.out]; rw [HLT.out]; simp [hb1]
                    · exact HAP.out p h (by have := HQ.out; omega), step_ HB.out (Nat.le_refl _) HF.out.b⟩
                  case measure => have := HQ.out; simp [intOf]; omega
                | false =>
                  cases hb2 : (xt == yt) with
                  | true =>
                    cases hb3 : decide (xr < yr) with
                    | true =>
                      go_wp2
                      go_roundw
                      case rel => exact ⟨q, by have := HQ.out; omega, rfl, fun p h hp => by
                        by_cases e : p = q
                        · subst e; rw [← HYQ.out]; rw [HLT.out]; simp [hb1,hb2,hb3]
                        · exact HAP.out p h (by have := HQ.out; omega), step_ HB.out (Nat.le_refl _) HF.out.b⟩
                      case measure => have := HQ.out; simp [intOf]; omega
                    | false =>
                      go_wp2
                      go_meet
                      exact ⟨j, (placeIn_is _ hjl HAP.out (.inr ⟨HJP.out, HYJ.out.trans (by rw [HLT.out]; simp [hb1,hb2,hb3])⟩)).symm, hjl, rfl, step_ HB.out (Nat.le_refl _) HF.out.b⟩
                  | false =>
                    go_wp2
                    go_meet
                    exact ⟨j, (placeIn_is _ hjl HAP.out (.inr ⟨HJP.out, HYJ.out.trans (by rw [HLT.out]; simp [hb1,hb2])⟩)).symm, hjl, rfl, step_ HB.out (Nat.le_refl _) HF.out.b⟩
              | true =>
                cases hp1 : (yp != xp) with
                | false =>
                  cases hb1 : decide (xt < yt) with
                  | true =>
                    go_wp2
                    go_roundw
                    case rel => exact ⟨q, by have := HQ.out; omega, rfl, fun p h hp => by
                      by_cases e : p = q
                      · subst e; rw [← HYQ.out]; rw [HLT.out]; simp [hp1,hb1]
                      · exact HAP.out p h (by have := HQ.out; omega), step_ HB.out (Nat.le_refl _) HF.out.b⟩
                    case measure => have := HQ.out; simp [intOf]; omega
                  | false =>
                    cases hb2 : (xt == yt) with
                    | true =>
                      cases hb3 : decide (xr < yr) with
                      | true =>
                        go_wp2
                        go_roundw
                        case rel => exact ⟨q, by have := HQ.out; omega, rfl, fun p h hp => by
                          by_cases e : p = q
                          · subst e; rw [← HYQ.out]; rw [HLT.out]; simp [hp1,hb1,hb2,hb3]
                          · exact HAP.out p h (by have := HQ.out; omega), step_ HB.out (Nat.le_refl _) HF.out.b⟩
                        case measure => have := HQ.out; simp [intOf]; omega
                      | false =>
                        go_wp2
                        go_meet
                        exact ⟨j, (placeIn_is _ hjl HAP.out (.inr ⟨HJP.out, HYJ.out.trans (by rw [HLT.out]; simp [hp1,hb1,hb2,hb3])⟩)).symm, hjl, rfl, step_ HB.out (Nat.le_refl _) HF.out.b⟩
                    | false =>
                      go_wp2
                      go_meet
                      exact ⟨j, (placeIn_is _ hjl HAP.out (.inr ⟨HJP.out, HYJ.out.trans (by rw [HLT.out]; simp [hp1,hb1,hb2])⟩)).symm, hjl, rfl, step_ HB.out (Nat.le_refl _) HF.out.b⟩
                | true =>
                  cases hp2 : decide (xp < yp) with
                  | true =>
                    cases hb1 : decide (xt < yt) with
                    | true =>
                      go_wp2
                      go_roundw
                      case rel => exact ⟨q, by have := HQ.out; omega, rfl, fun p h hp => by
                        by_cases e : p = q
                        · subst e; rw [← HYQ.out]; rw [HLT.out]; simp [hp1,hp2]
                        · exact HAP.out p h (by have := HQ.out; omega), step_ HB.out (Nat.le_refl _) HF.out.b⟩
                      case measure => have := HQ.out; simp [intOf]; omega
                    | false =>
                      cases hb2 : (xt == yt) with
                      | true =>
                        cases hb3 : decide (xr < yr) with
                        | true =>
                          go_wp2
                          go_roundw
                          case rel => exact ⟨q, by have := HQ.out; omega, rfl, fun p h hp => by
                            by_cases e : p = q
                            · subst e; rw [← HYQ.out]; rw [HLT.out]; simp [hp1,hp2]
                            · exact HAP.out p h (by have := HQ.out; omega), step_ HB.out (Nat.le_refl _) HF.out.b⟩
                          case measure => have := HQ.out; simp [intOf]; omega
                        | false =>
                          go_wp2
                          go_roundw
                          case rel => exact ⟨q, by have := HQ.out; omega, rfl, fun p h hp => by
                            by_cases e : p = q
                            · subst e; rw [← HYQ.out]; rw [HLT.out]; simp [hp1,hp2]
                            · exact HAP.out p h (by have := HQ.out; omega), step_ HB.out (Nat.le_refl _) HF.out.b⟩
                          case measure => have := HQ.out; simp [intOf]; omega
                      | false =>
                        go_wp2
                        go_roundw
                        case rel => exact ⟨q, by have := HQ.out; omega, rfl, fun p h hp => by
                          by_cases e : p = q
                          · subst e; rw [← HYQ.out]; rw [HLT.out]; simp [hp1,hp2]
                          · exact HAP.out p h (by have := HQ.out; omega), step_ HB.out (Nat.le_refl _) HF.out.b⟩
                        case measure => have := HQ.out; simp [intOf]; omega
                  | false =>
                    cases hb1 : decide (xt < yt) with
                    | true =>
                      go_wp2
                      go_meet
                      exact ⟨j, (placeIn_is _ hjl HAP.out (.inr ⟨HJP.out, HYJ.out.trans (by rw [HLT.out]; simp [hp1,hp2])⟩)).symm, hjl, rfl, step_ HB.out (Nat.le_refl _) HF.out.b⟩
                    | false =>
                      cases hb2 : (xt == yt) with
                      | true =>
                        cases hb3 : decide (xr < yr) with
                        | true =>
                          go_wp2
                          go_meet
                          exact ⟨j, (placeIn_is _ hjl HAP.out (.inr ⟨HJP.out, HYJ.out.trans (by rw [HLT.out]; simp [hp1,hp2])⟩)).symm, hjl, rfl, step_ HB.out (Nat.le_refl _) HF.out.b⟩
                        | false =>
                          go_wp2
                          go_meet
                          exact ⟨j, (placeIn_is _ hjl HAP.out (.inr ⟨HJP.out, HYJ.out.trans (by rw [HLT.out]; simp [hp1,hp2])⟩)).symm, hjl, rfl, step_ HB.out (Nat.le_refl _) HF.out.b⟩
                      | false =>
                        go_wp2
                        go_meet
                        exact ⟨j, (placeIn_is _ hjl HAP.out (.inr ⟨HJP.out, HYJ.out.trans (by rw [HLT.out]; simp [hp1,hp2])⟩)).symm, hjl, rfl, step_ HB.out (Nat.le_refl _) HF.out.b⟩
          · obtain rfl : j = 0 := by omega
            go_wp2
            go_meet
            exact ⟨0, (placeIn_is (ltB pl) (Nat.zero_le _) HP.out (.inl rfl)).symm, Nat.zero_le _, rfl, hb⟩
      case rest =>
        obtain ⟨j, hj, hjl, rfl, hb⟩ := hcut
        have HJ := Lib.hid hj
        clear hj
        have ownc := own.below hb
        have hsrc := Row.src ownc.1 Fns.S_len Fns.S_one
        have hoT := hsrc.take hjl
        have hoD := Src.cut hsrc hjl hc2
        have HXR := Lib.hid (rangeAt_below HR.out ownc.2)
        obtain ⟨xp, xt, xr⟩ := x
        have HL1 := Lib.hid (show ([] : List (List Value)).length + j ≤ 2147483648 by simp; omega)
        have HL2 := Lib.hid (show (([] : List (List Value)) ++ List.take j (List.map Fns.S pre)).length + 1 ≤ 2147483648 by rw [List.nil_append, List.length_take, List.length_map, Nat.min_eq_left hjl]; omega)
        have HL3 := Lib.hid (show ((([] : List (List Value)) ++ List.take j (List.map Fns.S pre)) ++ [[Value.int .i64 xp, .int .i64 xt, .int .i64 xr]]).length + (pre.length - j) ≤ 2147483648 by rw [List.nil_append, List.length_append, List.length_take, List.length_map, Nat.min_eq_left hjl]; simp; omega)
        have hk0 : (0 : Int) ≤ (j : Int) := by omega
        have hk1 : (j : Int) ≤ (pre.length : Int) := by omega
        have hk2 : (j : Int) ≤ (c2 : Int) := by omega
        have hz6 : (0 : Int) ≤ (k : Int) := by omega
        have hz7 : (k : Int) < (xs.length : Int) := by omega
        have HKEEP := Lib.hid (show ∀ W', Below wc.heap.size wc W' → _ from fun W' hW' => Fns.cellsS (rangeAt_below HXR.out hW'))
        simp only at HKEEP
        have hcb := HKEEP.out wc (Below.refl _ _)
        have HFIN := Lib.hid (fun (w3 : World) (v3 : Value) (own3 : Own wc 80 3 w3 v3 ((([] ++ List.take j (List.map Fns.S pre)) ++ [[Value.int .i64 xp, .int .i64 xt, .int .i64 xr]]) ++ List.drop j (List.map Fns.S pre))) => show Own w 80 3 w3 v3 ((putIn (ltB pl) pre ⟨xp, xt, xr⟩).map Fns.S) from by
          refine ⟨?_, step_ ownc.2 (Nat.le_refl _) own3.2⟩
          have := own3.1.mono ownc.2.size
          simpa [putIn, ← HJ.out, Fns.S] using this)
        have HTL := Lib.hid hoT
        have HDL := Lib.hid hoD
        clear hsrc ownc own hrow hoT hoD
        go_wp2_with fail
        go_region_held3 (fun w' => w'.cell? ⟨b, off + k * 3, none⟩ = some (.int .i64 xp) ∧ w'.cell? ⟨b, off + k * 3 + 1, none⟩ = some (.int .i64 xt) ∧ w'.cell? ⟨b, off + k * 3 + 2, none⟩ = some (.int .i64 xr))
          (exact HKEEP.out _ (by (repeat (first | (with_reducible exact Below.refl _ _) | (with_reducible exact Own.b own3) | (with_reducible exact Own.b own2) | (with_reducible exact Own.b own1) | (with_reducible refine Below.drew ?_) | (with_reducible refine below_alloc ?_ _)))))
          (first
            | (refine Ty.stepAppendOld (w0 := wc) tyPl (by rfl) _ _ (by rfl) (.slice (some ⟨_, 0, none⟩) 0 0) [] (by rfl) (by (repeat (first | (with_reducible assumption) | (with_reducible exact Own.nil (by (repeat (first | (with_reducible exact Below.refl _ _) | (with_reducible exact Own.b own3) | (with_reducible exact Own.b own2) | (with_reducible exact Own.b own1) | (with_reducible refine Below.drew ?_) | (with_reducible refine below_alloc ?_ _)))) _ (by simp)) | (with_reducible refine Own.drew ?_) | (with_reducible refine Own.alloc ?_ _)))) A2 j _ _ (by rfl) HTL.out HL1.out ?_; intro v1 w1 own1 hg1 hat1)
            | (refine Ty.stepAppend (w0 := wc) tyPl (by rfl) _ _ (by rfl) v1 _ (by rfl) (by (repeat (first | (with_reducible assumption) | (with_reducible exact Own.nil (by (repeat (first | (with_reducible exact Below.refl _ _) | (with_reducible exact Own.b own3) | (with_reducible exact Own.b own2) | (with_reducible exact Own.b own1) | (with_reducible refine Below.drew ?_) | (with_reducible refine below_alloc ?_ _)))) _ (by simp)) | (with_reducible refine Own.drew ?_) | (with_reducible refine Own.alloc ?_ _)))) _ 1 1 [[.int .i64 xp, .int .i64 xt, .int .i64 xr]] (by rfl) (by (repeat (first | (with_reducible assumption) | (with_reducible exact Src.lit _ _ _ _ (by simp) rfl (by simp [Value.oneCell'])) | (with_reducible refine Src.drew ?_) | (with_reducible refine Src.alloc ?_ _) | (with_reducible refine Src.grown ?_ (by with_reducible assumption) (by simp [Value.ownBlock]))))) HL2.out ?_; intro v2 w2 own2 hg2 hat2)
            | (refine Ty.stepAppendOld (w0 := wc) tyPl (by rfl) _ _ (by rfl) v2 _ (by rfl) (by (repeat (first | (with_reducible assumption) | (with_reducible exact Own.nil (by (repeat (first | (with_reducible exact Below.refl _ _) | (with_reducible exact Own.b own3) | (with_reducible exact Own.b own2) | (with_reducible exact Own.b own1) | (with_reducible refine Below.drew ?_) | (with_reducible refine below_alloc ?_ _)))) _ (by simp)) | (with_reducible refine Own.drew ?_) | (with_reducible refine Own.alloc ?_ _)))) _ _ _ _ (by rfl) HDL.out HL3.out ?_; intro v3 w3 own3 hg3 hat3))
        all_goals
          have hfin := HFIN.out w3 v3 own3
          clear own3 own2 own1
          go_wp2
          go_roundw
          case rel => exact ⟨k + 1, by omega, by go_num, by rw [HS.out]; exact hfin⟩
          case measure => simp [intOf]; omega
    · go_wp2
      go_ret
      obtain rfl : k = xs.length := by omega
      rw [List.take_length] at own
      exact ⟨_, rfl, own.1, own.2⟩
end Go.Proofs.Ytabgmbmaakglkaa
