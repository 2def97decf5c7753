/- The walk of the reference's number put to its place. No condition. -/
import Derived.Test.YthhlfkeikcmnlaaZLibSqz
import Derived.Test.YthhlfkeikcmnlaaZInts
import Derived.Deep.DeepCutAuto
import Derived.Deep.CutBlock
namespace Go.Proofs.Ythhlfkeikcmnlaa
open Go Go.RowKit

theorem ints_len (n : Int) : (ints n).length = 1 := rfl
set_option maxRecDepth 100000 in
set_option maxHeartbeats 4000000 in
theorem l1Put_any {w0 : World} (l : List Int) (x : Int) (v : Value) (w : World) (own : Own w0 3 1 w v (l.map ints)) (hn : l.length ≤ 1048577) :
    Calls Try.prog 77 #[v, .int .i64 x] w fun e w' => ∃ r, e = .returned r ∧ Own w0 3 1 w' r ((putU l x).map ints) ∧ Below w.heap.size w w' := by
  obtain ⟨A, c, rfl, hc, hm⟩ := own.1.parts
  simp only [List.length_map] at own hc ⊢
  have hrow := own.1
  have hcell : ∀ (W : World) (j : Nat) (h : j < l.length), Below w.heap.size w W → ∃ g, A = some ⟨g, 0, none⟩ ∧ W.cell? ⟨g, j, none⟩ = some (.int .i64 l[j]) := by
    intro W j hj hW
    obtain ⟨g, cap, he, hbg, hg, hcap⟩ := hrow.form (by simp; omega)
    simp only [Value.slice.injEq] at he
    obtain ⟨rfl, hq, rfl⟩ := he
    have := int_at (by have := rangeAt_below (hrow.range (k := j) (by simpa using hj)) hW; simpa using this : W.rangeAt g (j * 1) (ints l[j]))
    rw [Nat.mul_one] at this
    exact ⟨g, rfl, this⟩
  have HC := Lib.hid hcell
  clear hcell
  go_enter Try.func77, Try.ntmps77
  go_upto_block 0 with fail
  go_cut [5] (fun i wx => ∃ k : Nat, k = below l x ∧ k ≤ l.length ∧ i = .int .i64 k ∧ Below w.heap.size w wx)
  case first =>
    go_wp2_with fail
    go_loopw [5] (fun i wr => ∃ k : Nat, k ≤ l.length ∧ i = .int .i64 k ∧ Hid (∀ j (h : j < l.length), j < k → l[j] < x) ∧ Below w.heap.size w wr)
      (fun i _ => l.length - (intOf i).toNat)
    case atStart => exact ⟨0, Nat.zero_le _, rfl, fun j h hj => absurd hj (by omega), Below.refl _ _⟩
    case round =>
      obtain ⟨k, hkl, rfl, HS, hb⟩ := hrel
      by_cases hlt : k < l.length
      · obtain ⟨g, rfl, hcl⟩ := HC.out wr k hlt hb
        obtain ⟨y, hy⟩ : ∃ y, y = l[k] := ⟨_, rfl⟩
        rw [← hy] at hcl
        have HY := Lib.hid hy
        clear hy
        go_wp2
        all_goals first
          | (go_meet
             exact ⟨k, (below_is (fun j h hj => HS.out j h hj) (fun _ => by rw [← HY.out]; omega) hkl).symm, hkl, rfl, hb⟩)
          | (go_roundw
             case rel => exact ⟨k + 1, by omega, by go_num, fun j h hj => by
               by_cases e : j < k
               · exact HS.out j h e
               · obtain rfl : j = k := by omega
                 rw [← HY.out]; omega, hb⟩
             case measure => simp [intOf]; omega)
      · go_wp2
        go_meet
        exact ⟨k, (below_is (fun j h hj => HS.out j h hj) (fun h => absurd h hlt) hkl).symm, hkl, rfl, hb⟩
  case rest =>
    obtain ⟨k, hka, hkl, rfl, hb⟩ := hcut
    have ownc := own.below hb
    have hsrc := Row.src ownc.1 ints_len ints_one
    have hoT := hsrc.take hkl
    have hoD := Src.cut hsrc hkl hc
    have HL1 := Lib.hid (show ([] : List (List Value)).length + k ≤ 2147483648 by simp; omega)
    have HL2 := Lib.hid (show (([] : List (List Value)) ++ List.take k (List.map ints l)).length + 1 ≤ 2147483648 by rw [List.nil_append, List.length_take, List.length_map, Nat.min_eq_left hkl]; omega)
    have HL3 := Lib.hid (show ((([] : List (List Value)) ++ List.take k (List.map ints l)) ++ [[Value.int .i64 x]]).length + (l.length - k) ≤ 2147483648 by rw [List.nil_append, List.length_append, List.length_take, List.length_map, Nat.min_eq_left hkl]; simp; omega)
    by_cases heq : l[k]? = some x
    · have hlt : k < l.length := (List.getElem?_eq_some_iff.1 heq).1
      obtain ⟨g, rfl, hcl⟩ := HC.out wc k hlt hb
      have hx : l[k] = x := (List.getElem?_eq_some_iff.1 heq).2
      rw [hx] at hcl
      have HP := Lib.hid (show putU l x = l by unfold putU; rw [← hka, if_pos heq])
      have OWN := Lib.hid ownc
      clear hx heq hka hoT hoD hsrc ownc own hrow
      go_wp2
      go_ret
      exact ⟨_, rfl, by rw [HP.out]; exact OWN.out, hb⟩
    · have HP := Lib.hid (show putU l x = l.take k ++ x :: l.drop k by unfold putU; rw [← hka, if_neg heq])
      have hk0 : (0 : Int) ≤ (k : Int) := by omega
      have hk1 : (k : Int) ≤ (l.length : Int) := by omega
      have hk2 : (k : Int) ≤ (c : Int) := by omega
      have HFIN := Lib.hid (fun (w3 : World) (v3 : Value) (own3 : Own wc 3 1 w3 v3 ((([] ++ List.take k (List.map ints l)) ++ [[Value.int .i64 x]]) ++ List.drop k (List.map ints l))) => show Own w0 3 1 w3 v3 ((putU l x).map ints) ∧ Below w.heap.size w w3 from by
        refine ⟨⟨?_, step_ ownc.2 (Nat.le_refl _) own3.2⟩, step_ hb (Nat.le_refl _) own3.2⟩
        have := own3.1.mono ownc.2.size
        rw [HP.out]
        simpa [ints] using this)
      have HTL := Lib.hid hoT
      have HDL := Lib.hid hoD
      by_cases hlt : k < l.length
      · obtain ⟨g, rfl, hcl⟩ := HC.out wc k hlt hb
        have hx : (l[k] == x) = false := by
          rw [List.getElem?_eq_getElem hlt] at heq
          simpa using heq
        obtain ⟨y, hy⟩ : ∃ y, y = l[k] := ⟨_, rfl⟩
        rw [← hy] at hcl hx
        have HDL := Lib.hid (show Src wc 1 (if c = k then some ⟨g, 0, none⟩ else some ⟨g, k, none⟩) (l.length - k) (List.drop k (List.map ints l)) by
          have h1 := HDL.out
          have e : (Option.map (fun a : Addr => a.add (k * 1)) (some ⟨g, 0, none⟩)) = some ⟨g, k, none⟩ := by
            by_cases hk : k = 0 <;> simp [Addr.add, hk]
          rw [e] at h1
          exact h1)
        clear hy heq hka own hrow ownc hoT hoD hsrc
        go_wp2_with fail
        go_region_held3 (fun _ => True) (trivial)
          (first
            | (refine Ty.stepAppendOld (w0 := wc) tyInt (by rfl) _ _ (by rfl) (.slice (some ⟨_, 0, none⟩) 0 0) [] (by rfl) (by (repeat (first | (with_reducible assumption) | (with_reducible exact Own.nil (by (repeat (first | (with_reducible exact Below.refl _ _) | (with_reducible exact Own.b own3) | (with_reducible exact Own.b own2) | (with_reducible exact Own.b own1) | (with_reducible refine Below.drew ?_) | (with_reducible refine below_alloc ?_ _)))) _ (by simp)) | (with_reducible refine Own.drew ?_) | (with_reducible refine Own.alloc ?_ _)))) (some ⟨g, 0, none⟩) k _ _ (by rfl) HTL.out HL1.out ?_; intro v1 w1 own1 hg1 hat1)
            | (refine Ty.stepAppend (w0 := wc) tyInt (by rfl) _ _ (by rfl) v1 _ (by rfl) (by (repeat (first | (with_reducible assumption) | (with_reducible exact Own.nil (by (repeat (first | (with_reducible exact Below.refl _ _) | (with_reducible exact Own.b own3) | (with_reducible exact Own.b own2) | (with_reducible exact Own.b own1) | (with_reducible refine Below.drew ?_) | (with_reducible refine below_alloc ?_ _)))) _ (by simp)) | (with_reducible refine Own.drew ?_) | (with_reducible refine Own.alloc ?_ _)))) _ 1 1 [[.int .i64 x]] (by rfl) (by (repeat (first | (with_reducible assumption) | (with_reducible exact Src.lit _ _ _ _ (by simp) rfl (by simp [Value.oneCell'])) | (with_reducible refine Src.drew ?_) | (with_reducible refine Src.alloc ?_ _) | (with_reducible refine Src.grown ?_ (by with_reducible assumption) (by simp [Value.ownBlock]))))) HL2.out ?_; intro v2 w2 own2 hg2 hat2)
            | (refine Ty.stepAppendOld (w0 := wc) tyInt (by rfl) _ _ (by rfl) v2 _ (by rfl) (by (repeat (first | (with_reducible assumption) | (with_reducible exact Own.nil (by (repeat (first | (with_reducible exact Below.refl _ _) | (with_reducible exact Own.b own3) | (with_reducible exact Own.b own2) | (with_reducible exact Own.b own1) | (with_reducible refine Below.drew ?_) | (with_reducible refine below_alloc ?_ _)))) _ (by simp)) | (with_reducible refine Own.drew ?_) | (with_reducible refine Own.alloc ?_ _)))) _ _ _ _ (by rfl) HDL.out HL3.out ?_; intro v3 w3 own3 hg3 hat3))
        all_goals
          have hfin := HFIN.out w3 v3 own3
          clear own3 own2 own1
          go_wp2
          all_goals (go_ret; exact ⟨_, rfl, hfin⟩)
      · obtain rfl : k = l.length := by omega
        have HDZ := Lib.hid (show ∀ A' : Option Addr, Src wc 1 A' 0 (List.drop l.length (List.map ints l)) from fun A' => by
          rw [List.drop_of_length_le (by simp)]
          exact Src.zero _ _ _)
        have HL3 := Lib.hid (show ((([] : List (List Value)) ++ List.take l.length (List.map ints l)) ++ [[Value.int .i64 x]]).length + 0 ≤ 2147483648 by have := HL3.out; omega)
        clear heq hka own hrow ownc hoT hoD hsrc
        go_wp2_with fail
        go_region_held3 (fun _ => True) (trivial)
          (first
            | (refine Ty.stepAppendOld (w0 := wc) tyInt (by rfl) _ _ (by rfl) (.slice (some ⟨_, 0, none⟩) 0 0) [] (by rfl) (by (repeat (first | (with_reducible assumption) | (with_reducible exact Own.nil (by (repeat (first | (with_reducible exact Below.refl _ _) | (with_reducible exact Own.b own3) | (with_reducible exact Own.b own2) | (with_reducible exact Own.b own1) | (with_reducible refine Below.drew ?_) | (with_reducible refine below_alloc ?_ _)))) _ (by simp)) | (with_reducible refine Own.drew ?_) | (with_reducible refine Own.alloc ?_ _)))) A l.length _ _ (by rfl) HTL.out HL1.out ?_; intro v1 w1 own1 hg1 hat1)
            | (refine Ty.stepAppend (w0 := wc) tyInt (by rfl) _ _ (by rfl) v1 _ (by rfl) (by (repeat (first | (with_reducible assumption) | (with_reducible exact Own.nil (by (repeat (first | (with_reducible exact Below.refl _ _) | (with_reducible exact Own.b own3) | (with_reducible exact Own.b own2) | (with_reducible exact Own.b own1) | (with_reducible refine Below.drew ?_) | (with_reducible refine below_alloc ?_ _)))) _ (by simp)) | (with_reducible refine Own.drew ?_) | (with_reducible refine Own.alloc ?_ _)))) _ 1 1 [[.int .i64 x]] (by rfl) (by (repeat (first | (with_reducible assumption) | (with_reducible exact Src.lit _ _ _ _ (by simp) rfl (by simp [Value.oneCell'])) | (with_reducible refine Src.drew ?_) | (with_reducible refine Src.alloc ?_ _) | (with_reducible refine Src.grown ?_ (by with_reducible assumption) (by simp [Value.ownBlock]))))) HL2.out ?_; intro v2 w2 own2 hg2 hat2)
            | (refine Ty.stepAppendOld (w0 := wc) tyInt (by rfl) _ _ (by rfl) v2 _ (by rfl) (by (repeat (first | (with_reducible assumption) | (with_reducible exact Own.nil (by (repeat (first | (with_reducible exact Below.refl _ _) | (with_reducible exact Own.b own3) | (with_reducible exact Own.b own2) | (with_reducible exact Own.b own1) | (with_reducible refine Below.drew ?_) | (with_reducible refine below_alloc ?_ _)))) _ (by simp)) | (with_reducible refine Own.drew ?_) | (with_reducible refine Own.alloc ?_ _)))) _ 0 _ _ (by rfl) (HDZ.out _) HL3.out ?_; intro v3 w3 own3 hg3 hat3))
        all_goals
          have hfin := HFIN.out w3 v3 own3
          clear own3 own2 own1
          go_wp2
          all_goals (go_ret; exact ⟨_, rfl, hfin⟩)
end Go.Proofs.Ythhlfkeikcmnlaa
