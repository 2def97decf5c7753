/- Standings, the program's. No condition. -/
import Derived.Test.YthhlfkeikcmnlaaZMostQStdQ
import Derived.Test.YthhlfkeikcmnlaaZStb
import Derived.Test.YthhlfkeikcmnlaaZCount
import Derived.Test.YthhlfkeikcmnlaaZNeedA
namespace Go.Proofs.Ythhlfkeikcmnlaa
open Go Go.RowKit

theorem std1_any (a b m : Int) (l : List Score) (A : Option Addr) (n c : Nat) (b0 b1 : Nat) (w : World) (h0 : w.cell? ⟨b0, 0, none⟩ = some (.slice A n c)) (h1 : w.cell? ⟨b1, 0, none⟩ = some (.int .i64 m))
    (hs : Sl (Flat Score.lst) 3 w (.slice A n c) l) (hn : l.length ≤ 1048577) (ha : (ownS l a).length ≤ 20) (hb : (ownS l b).length ≤ 20) (hm0 : 0 ≤ m) (hm1 : m ≤ 9223372036854775807) (hsm : Small l) :
    Calls Try.prog 73 #[.int .i64 a, .int .i64 b, .pointer (some ⟨b0, 0, none⟩), .pointer (some ⟨b1, 0, none⟩)] w fun e w' => e = .returned (.int .i64 (cmpStand l m a b)) ∧ Below w.heap.size w w' := by
  have HC := Lib.hid (compareStanding_any l m a b _ w hs hn ha hb hm0 hm1 hsm)
  clear hs
  go_enter Try.func73, Try.ntmps73
  go_wp2_with (go_at_call 71; refine HC.out.mono ?_; rintro e w1 ⟨rfl, hb1⟩)
  go_ret
  exact ⟨rfl, hb1⟩
theorem stdV_no {n m : Int} {xs : List Score} (h : goodS n m xs = false) : stdV n m xs = [] := by simp [stdV, h]
theorem stdV_yes {n m : Int} {xs : List Score} (h : goodS n m xs = true) : stdV n m xs = putAll (ltC (cmpStand xs m)) (runsS xs) := by simp [stdV, h]

set_option maxHeartbeats 2000000 in
theorem impl_Standings (n m : Int) (x : List Score) (v : Value) (w : World) (_ : I64 n) (_ : I64 m) (h : Sl (Flat Score.lst) 3 w v x) (_ : ∀ p ∈ x, Score.ok p) :
    Calls Try.prog 36 #[.int .i64 n, .int .i64 m, v] w fun e w' => ∃ r, e = .returned (.tuple #[r, .bool (goodS n m x)]) ∧ Row w.heap.size 3 1 w' r ((stdV n m x).map ints) ∧ Below w.heap.size w w' := by
  obtain ⟨VA, vc, rfl, hvc, hvcm, _⟩ := h.open_
  have hW : Below w.heap.size w ((w.alloc (.cells #[.int .i64 m] 3)).alloc (.cells #[.slice VA x.length vc] 25)) := below_alloc (below_alloc (Below.refl _ _) _) _
  have hc0 : ((w.alloc (.cells #[.int .i64 m] 3)).alloc (.cells #[.slice VA x.length vc] 25)).cell? ⟨w.heap.size, 0, none⟩ = some (.int .i64 m) :=
    After.keep (rangeAt_new w [.int .i64 m] 3 0 _ rfl) ⟨_, below_alloc (Below.refl _ _) _⟩
  have hc1 : ((w.alloc (.cells #[.int .i64 m] 3)).alloc (.cells #[.slice VA x.length vc] 25)).cell? ⟨w.heap.size + 1, 0, none⟩ = some (.slice VA x.length vc) := by
    simp
  have HG := Lib.hid (areScores_any n m x (.slice VA x.length vc) _ (h.below (Flat.keeps _) hW))
  by_cases hg : goodS n m x = true
  rotate_left
  · have hg' : goodS n m x = false := by simpa using hg
    have HV := Lib.hid (stdV_no hg')
    rw [hg'] at HG ⊢
    rw [HV.out]
    have HW := Lib.hid hW
    clear hg hg' h hW hc0 hc1
    go_enter Try.func36, Try.ntmps36
    go_wp2_with (go_at_call 17; refine HG.out.mono ?_; rintro e w1 ⟨rfl, hb1⟩)
    go_ret2
    exact ⟨_, rfl, Row.nil _ _ _ _, step_ HW.out (Nat.le_refl _) hb1⟩
  have hn40 := good_len hg
  obtain ⟨hm1, hm8⟩ := good_best hg
  have HOWN := Lib.hid (fun a => Nat.le_trans (own_len hg a) (by omega : 8 ≤ 20))
  have HSM := Lib.hid (small_good hg)
  have HASC := Lib.hid (runsS_asc hg)
  have HL := Lib.hid (runsS_len x)
  have HV := Lib.hid (stdV_yes hg)
  have HSL := Lib.hid h
  have hlt0 := block_lt_of_cell hc0
  have hlt1 := block_lt_of_cell hc1
  simp only at hlt0 hlt1
  rw [hg] at HG ⊢
  rw [HV.out]
  clear hg h HV
  go_enter Try.func36, Try.ntmps36
  go_wp2_with fail
  generalize (w.alloc (.cells #[.int .i64 m] 3)).alloc (.cells #[.slice VA x.length vc] 25) = W at hW hc0 hc1 hlt0 hlt1 HG ⊢
  refine HG.out.mono ?_
  rintro e w1 ⟨rfl, hb1⟩
  have hk0 := After.keep hc0 ⟨w1, hb1⟩
  have hk1 := After.keep hc1 ⟨w1, hb1⟩
  simp only at hk0 hk1
  have hB1 := step_ hW (Nat.le_refl _) hb1
  go_wp2_with fail
  refine (scoreRunners_any x _ _ (HSL.out.below (Flat.keeps _) hB1) (by omega)).mono ?_
  rintro e w2 ⟨o2, rfl, row2, hb2⟩
  have hB2 := step_ hB1 (Nat.le_refl _) hb2
  have hk0 := After.keep hk0 ⟨w2, hb2⟩
  have hk1 := After.keep hk1 ⟨w2, hb2⟩
  simp only at hk0 hk1
  have hne : ∀ q, q < W.heap.size → o2.ownBlock ≠ some q := fun q hq e => by have := (row2.lt _ e).1; have := hb1.size; omega
  have hWb : ∀ W', w2.grownBy W' o2.ownBlock → Below w.heap.size w W' := fun W' hg => hB2.grown hg hB2.size (fun q hq => Nat.le_trans hB1.size (row2.lt q hq).1)
  go_wp2_with fail
  refine (sortStable_73 (.pointer (some ⟨w.heap.size + 1, 0, none⟩)) (.pointer (some ⟨w.heap.size, 0, none⟩)) (cmpStand x m) (cmpStand_cmp x m) w1.heap.size o2 (runsS x) w2 row2 (by have := HL.out; omega) HASC.out (fun W' a b _ _ hg =>
    std1_any a b m x VA x.length vc (w.heap.size + 1) w.heap.size W' (hg.cell_far_ hk1 (hne _ hlt1)) (hg.cell_far_ hk0 (hne _ hlt0)) (HSL.out.below (Flat.keeps _) (hWb W' hg)) (by omega) (HOWN.out a) (HOWN.out b) (by omega) (by omega) HSM.out)).mono ?_
  rintro e w3 ⟨rfl, row3, hg3⟩
  go_wp2
  go_ret2
  exact ⟨_, rfl, row3.mono hB1.size, hWb w3 hg3⟩
end Go.Proofs.Ythhlfkeikcmnlaa
