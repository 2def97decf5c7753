/- The cursor of the draws: what its methods give back and what they leave. Condition: it has not come too far. -/
import Derived.Test.YtabgmbmaakglkaaGrow
import Derived.Test.YtabgmbmaakglkaaInts
import Derived.RegionTactic
import Derived.BigRegion
import Derived.Laws.BitsAllLaws
namespace Go.Proofs.Ytabgmbmaakglkaa
open Go Go.RowKit

/-- A cursor lies at block c, at place n at most; the bytes that it reads lie before it. -/
structure Cur (c : Nat) (w : World) (n : Nat) : Prop where
  lt : c < w.heap.size
  code : ∃ (A : Option Addr) (m cap : Nat), w.cell? ⟨c, 0, none⟩ = some (.slice A m cap) ∧ m ≤ cap ∧ cap ≤ 9223372036854775807 ∧ (0 < m → ∃ b off, A = some ⟨b, off, none⟩ ∧ b < c ∧ ∀ k, k < m → ∃ x : Int, 0 ≤ x ∧ x ≤ 255 ∧ w.cell? ⟨b, off + k, none⟩ = some (.int .u8 x))
  at_ : ∃ a : Nat, a ≤ n ∧ w.cell? ⟨c, 1, none⟩ = some (.int .i64 a)
  seed : ∃ s : Int, 0 ≤ s ∧ s ≤ 18446744073709551615 ∧ w.cell? ⟨c, 2, none⟩ = some (.int .u64 s)
  fz : ∀ o, w.frozen? ⟨c, o, none⟩ = false

theorem frozen_kept {w w' : World} {row : Option Nat} {b o : Nat} (hg : w.grownBy w' row) (hlt : b < w.heap.size) (hne : row ≠ some b) (h : w.frozen? ⟨b, o, none⟩ = false) : w'.frozen? ⟨b, o, none⟩ = false := by
  rw [World.frozen?_of_block (w := w) (hg.block b hlt (fun e => hne e.symm))]
  exact h
theorem Cur.kept {c n : Nat} {w w' : World} {row : Option Nat} (h : Cur c w n) (hg : w.grownBy w' row) (hr : ∀ g, row = some g → c < g) : Cur c w' n := by
  have hne : ∀ b, b ≤ c → row ≠ some b := fun b hb e => by have := hr b e; omega
  obtain ⟨A, m, cap, h1, h2, h3, h4⟩ := h.code
  obtain ⟨a, ha, ha2⟩ := h.at_
  obtain ⟨s, hs1, hs2, hs3⟩ := h.seed
  refine ⟨Nat.lt_of_lt_of_le h.lt hg.size, ⟨A, m, cap, hg.cell_far_ h1 (hne c (Nat.le_refl _)), h2, h3, fun hm => ?_⟩, ⟨a, ha, hg.cell_far_ ha2 (hne c (Nat.le_refl _))⟩, ⟨s, hs1, hs2, hg.cell_far_ hs3 (hne c (Nat.le_refl _))⟩, fun o => frozen_kept hg h.lt (hne c (Nat.le_refl _)) (h.fz o)⟩
  obtain ⟨b, off, e, hb, hk⟩ := h4 hm
  refine ⟨b, off, e, hb, fun k hk' => ?_⟩
  obtain ⟨x, hx1, hx2, hx3⟩ := hk k hk'
  exact ⟨x, hx1, hx2, hg.cell_far_ hx3 (hne b (by omega))⟩
theorem Cur.mono {c n n' : Nat} {w : World} (h : Cur c w n) (hn : n ≤ n') : Cur c w n' := by
  obtain ⟨a, ha, ha2⟩ := h.at_
  exact ⟨h.lt, h.code, ⟨a, by omega, ha2⟩, h.seed, h.fz⟩
theorem Cur.below {c n : Nat} {w w' : World} (h : Cur c w n) (hb : Below w.heap.size w w') : Cur c w' n := h.kept (row := none) (grown_of hb) (by simp)

theorem grown_setCell {w : World} {c o : Nat} {u : Value} : w.grownBy (w.setCell ⟨c, o, none⟩ u) (some c) :=
  ⟨rfl, rfl, rfl, by simp, fun k _ hne => Below.heap_setCell _ _ _ _ (fun e => hne (by rw [e]))⟩
/-- Behind a step of the cursor. -/
theorem cur_stepped {c n a m cap : Nat} {A : Option Addr} {w w2 : World} {z s0 : Int} (hlt : c < w.heap.size) (hb : Below w.heap.size w w2) (h0 : w2.cell? ⟨c, 0, none⟩ = some (.slice A m cap)) (h1 : w2.cell? ⟨c, 1, none⟩ = some (.int .i64 a)) (h2 : w2.cell? ⟨c, 2, none⟩ = some (.int .u64 s0)) (hf : ∀ o, w2.frozen? ⟨c, o, none⟩ = false)
    (hm : m ≤ cap) (hc : cap ≤ 9223372036854775807) (hk : 0 < m → ∃ b off, A = some ⟨b, off, none⟩ ∧ b < c ∧ ∀ k, k < m → ∃ x : Int, 0 ≤ x ∧ x ≤ 255 ∧ w.cell? ⟨b, off + k, none⟩ = some (.int .u8 x)) (ha : a ≤ n) (hz1 : 0 ≤ z) (hz2 : z ≤ 18446744073709551615) :
    ((w2.setCell ⟨c, 1, none⟩ (.int .i64 (a + 1))).setCell ⟨c, 2, none⟩ (.int .u64 z)).cell? ⟨c, 0, none⟩ = some (.slice A m cap) ∧ ((w2.setCell ⟨c, 1, none⟩ (.int .i64 (a + 1))).setCell ⟨c, 2, none⟩ (.int .u64 z)).cell? ⟨c, 1, none⟩ = some (.int .i64 (a + 1)) ∧
    ((w2.setCell ⟨c, 1, none⟩ (.int .i64 (a + 1))).setCell ⟨c, 2, none⟩ (.int .u64 z)).cell? ⟨c, 2, none⟩ = some (.int .u64 z) ∧ Cur c ((w2.setCell ⟨c, 1, none⟩ (.int .i64 (a + 1))).setCell ⟨c, 2, none⟩ (.int .u64 z)) (n + 1) ∧ w.grownBy ((w2.setCell ⟨c, 1, none⟩ (.int .i64 (a + 1))).setCell ⟨c, 2, none⟩ (.int .u64 z)) (some c) := by
  have n0 : ((w2.setCell ⟨c, 1, none⟩ (.int .i64 (a + 1))).setCell ⟨c, 2, none⟩ (.int .u64 z)).cell? ⟨c, 0, none⟩ = some (.slice A m cap) := by
    rw [World.cell?_setCell_other _ _ _ _ (by simp), World.cell?_setCell_other _ _ _ _ (by simp)]; exact h0
  have n1 : ((w2.setCell ⟨c, 1, none⟩ (.int .i64 (a + 1))).setCell ⟨c, 2, none⟩ (.int .u64 z)).cell? ⟨c, 1, none⟩ = some (.int .i64 (a + 1)) := by
    rw [World.cell?_setCell_other _ _ _ _ (by simp)]; exact World.cell?_setCell_same _ _ _ h1
  have n2 : ((w2.setCell ⟨c, 1, none⟩ (.int .i64 (a + 1))).setCell ⟨c, 2, none⟩ (.int .u64 z)).cell? ⟨c, 2, none⟩ = some (.int .u64 z) :=
    World.cell?_setCell_same _ _ _ (u := .int .u64 s0) (by rw [World.cell?_setCell_other _ _ _ _ (by simp)]; exact h2)
  have hg : w.grownBy ((w2.setCell ⟨c, 1, none⟩ (.int .i64 (a + 1))).setCell ⟨c, 2, none⟩ (.int .u64 z)) (some c) := grown_trans (grown_of hb) (grown_trans grown_setCell grown_setCell)
  refine ⟨n0, n1, n2, ⟨Nat.lt_of_lt_of_le hlt hg.size, ⟨A, m, cap, n0, hm, hc, fun h => ?_⟩, ⟨a + 1, by omega, by rw [n1]; congr 1⟩, ⟨z, hz1, hz2, n2⟩, fun o => by simp [hf]⟩, hg⟩
  obtain ⟨b, off, e, hb', h3⟩ := hk h
  refine ⟨b, off, e, hb', fun k hk' => ?_⟩
  obtain ⟨x, hx1, hx2, hx3⟩ := h3 k hk'
  exact ⟨x, hx1, hx2, hg.cell_far_ hx3 (fun e => by simp at e; omega)⟩
theorem and255 (y : Int) (h0 : 0 ≤ y) (h1 : y < 18446744073709551616) : ∃ k : Nat, k ≤ 255 ∧ bits .and .u64 y 255 = (k : Int) :=
  ⟨y.toNat &&& (255 : Int).toNat, Nat.and_le_right, u64_and y 255 h0 h1 (by omega) (by omega)⟩
theorem wrap_u64_range (n : Int) : 0 ≤ IntKind.u64.wrap n ∧ IntKind.u64.wrap n ≤ 18446744073709551615 := by
  rw [IntKind.wrap_u64]; omega
set_option maxRecDepth 100000 in
set_option maxHeartbeats 4000000 in
theorem next_any (c n : Nat) (w : World) (h : Cur c w n) (hn : n ≤ 1073741824) :
    Calls Try.prog 90 #[.pointer (some ⟨c, 0, none⟩)] w fun e w' => ∃ x : Int, e = .returned (.int .i64 x) ∧ 0 ≤ x ∧ x ≤ 255 ∧ Cur c w' (n + 1) ∧ w.grownBy w' (some c) := by
  obtain ⟨A, m, cap, h1, h2, h3, h4⟩ := h.code
  obtain ⟨a, ha, ha2⟩ := h.at_
  obtain ⟨s0, hs1, hs2, hs3⟩ := h.seed
  have hlt := h.lt
  have hfz := h.fz
  have H4 := Lib.hid h4
  have HLT := Lib.hid hlt
  have k1 := After.keep h1
  have k2 := After.keep ha2
  clear h4 h
  by_cases ham : a < m
  · obtain ⟨b, off, rfl, hb, hk⟩ := H4.out (by omega)
    obtain ⟨x, hx1, hx2, hx3⟩ := hk a ham
    have k3 := After.keep hx3
    clear hk
    go_enter Try.func90, Try.ntmps90
    go_wp2
    refine region_after (by kernel_rfl) (by kernel_rfl) ?_
    repeat (any_goals (first | go_big_quiet_step (fail)  | quiet_step (fail) | (refine wpQuiet_step (fun K hK => ?_); go_simp; split <;> (refine hK _ ?_; clear hK K))))
    all_goals (refine wpQuiet_nil ?_; intro s)
    have l1 := After.keep (k1 s)
    have l2 := After.keep (k2 s)
    have l3 := After.keep (k3 s)
    have hb1 := s.hb
    have l4 : ∀ o, s.w'.frozen? ⟨c, o, none⟩ = false := fun o => frozen_kept (row := none) (grown_of hb1) hlt (by simp) (hfz o)
    clear k1 k2 k3
    generalize s.w' = w1 at l1 l2 l3 l4 hb1 ⊢
    go_wp2
    refine region_after (by kernel_rfl) (by kernel_rfl) ?_
    repeat (any_goals (first | go_big_quiet_step (fail)  | quiet_step (fail) | (refine wpQuiet_step (fun K hK => ?_); go_simp; split <;> (refine hK _ ?_; clear hK K))))
    all_goals (refine wpQuiet_nil ?_; intro s)
    have m1 := l1 s
    have m2 := l2 s
    have hB := step_ hb1 (Nat.le_refl _) s.hb
    have m5 := After.keep (After.keep hs3 ⟨w1, hb1⟩) s
    have m4 : ∀ o, s.w'.frozen? ⟨c, o, none⟩ = false := fun o => frozen_kept (row := none) (grown_of hB) hlt (by simp) (hfz o)
    clear l1 l2 l3 l4
    generalize s.w' = w2 at m1 m2 m4 m5 hB ⊢
    go_wp2
    obtain ⟨z, hz⟩ : ∃ z, IntKind.u64.wrap (IntKind.u64.wrap (IntKind.u64.wrap (s0 * 6364136223846793005) + x) + 938938) = z := ⟨_, rfl⟩
    rw [hz]
    have hzr := wrap_u64_range (IntKind.u64.wrap (IntKind.u64.wrap (s0 * 6364136223846793005) + x) + 938938)
    rw [hz] at hzr
    obtain ⟨n0, n1, n2, n3, n4⟩ := cur_stepped (z := z) hlt hB m1 m2 m5 m4 h2 h3 H4.out ha hzr.1 hzr.2
    generalize (w2.setCell ⟨c, 1, none⟩ (.int .i64 (a + 1))).setCell ⟨c, 2, none⟩ (.int .u64 z) = W at n0 n1 n2 n3 n4 ⊢
    have o0 := After.keep n0
    have o1 := After.keep n1
    have HC := Lib.hid (And.intro n3 n4)
    clear n0 n1 n2 n3 n4 m1 m2 m4 m5 hB hz hzr
    go_wp2
    refine region_after (by kernel_rfl) (by kernel_rfl) ?_
    repeat (any_goals (first | go_big_quiet_step (fail)  | quiet_step (fail) | (refine wpQuiet_step (fun K hK => ?_); go_simp; split <;> (refine hK _ ?_; clear hK K))))
    all_goals (refine wpQuiet_nil ?_; intro s)
    go_wp2
    go_ret
    exact ⟨x, rfl, hx1, hx2, HC.out.1.below s.hb, grown_trans HC.out.2 (grown_of s.hb)⟩
  · have hx1 : (0 : Int) ≤ 0 := by omega
    have ham' : ¬ a + 1 ≤ m := by omega
    go_enter Try.func90, Try.ntmps90
    go_wp2
    refine region_after (by kernel_rfl) (by kernel_rfl) ?_
    repeat (any_goals (first | go_big_quiet_step (fail)  | quiet_step (fail) | (refine wpQuiet_step (fun K hK => ?_); go_simp; split <;> (refine hK _ ?_; clear hK K))))
    all_goals (refine wpQuiet_nil ?_; intro s)
    have l1 := k1 s
    have l2 := k2 s
    have hB := s.hb
    have m5 := After.keep hs3 s
    have m4 : ∀ o, s.w'.frozen? ⟨c, o, none⟩ = false := fun o => frozen_kept (row := none) (grown_of hB) hlt (by simp) (hfz o)
    clear k1 k2
    generalize s.w' = w2 at l1 l2 m4 m5 hB ⊢
    go_wp2
    obtain ⟨z, hz⟩ : ∃ z, IntKind.u64.wrap (IntKind.u64.wrap (IntKind.u64.wrap (s0 * 6364136223846793005)) + 938938) = z := ⟨_, rfl⟩
    rw [hz]
    have hzr := wrap_u64_range (IntKind.u64.wrap (IntKind.u64.wrap (s0 * 6364136223846793005)) + 938938)
    rw [hz] at hzr
    obtain ⟨n0, n1, n2, n3, n4⟩ := cur_stepped (z := z) hlt hB l1 l2 m5 m4 h2 h3 H4.out ha hzr.1 hzr.2
    generalize (w2.setCell ⟨c, 1, none⟩ (.int .i64 (a + 1))).setCell ⟨c, 2, none⟩ (.int .u64 z) = W at n0 n1 n2 n3 n4 ⊢
    have o0 := After.keep n0
    have o1 := After.keep n1
    have o2 := After.keep n2
    have HC := Lib.hid (And.intro n3 n4)
    obtain ⟨hz1, hz2⟩ := hzr
    clear n0 n1 n2 n3 n4 l1 l2 m4 m5 hB hz
    go_wp2
    refine region_after (by kernel_rfl) (by kernel_rfl) ?_
    repeat (any_goals (first | go_big_quiet_step (fail)  | quiet_step (fail) | (refine wpQuiet_step (fun K hK => ?_); go_simp; split <;> (refine hK _ ?_; clear hK K))))
    all_goals (refine wpQuiet_nil ?_; intro s)
    have o2 := o2 s
    obtain ⟨kk, hkk, hkb⟩ := and255 (z / 1099511627776) (by omega) (by omega)
    go_wp2
    go_ret
    exact ⟨(kk : Int), rfl, by omega, by omega, HC.out.1.below s.hb, grown_trans HC.out.2 (grown_of s.hb)⟩

set_option maxHeartbeats 4000000 in
theorem pick_any (c n : Nat) (k : Int) (w : World) (h : Cur c w n) (hn : n ≤ 1073741800) (hk : k ≤ 65536) :
    Calls Try.prog 76 #[.pointer (some ⟨c, 0, none⟩), .int .i64 k] w fun e w' => ∃ x : Int, e = .returned (.int .i64 x) ∧ 0 ≤ x ∧ (x < k ∨ x = 0) ∧ Cur c w' (n + 2) ∧ w.grownBy w' (some c) := by
  by_cases h1 : k ≤ 1
  · have HC := Lib.hid h
    clear h
    go_enter Try.func76, Try.ntmps76
    go_wp2
    go_ret
    exact ⟨0, rfl, Int.le_refl _, .inr rfl, HC.out.mono (by omega), World.grownBy.refl _ _⟩
  · have HN := Lib.hid (next_any c n w h (by omega))
    have hk0 : k ≠ 0 := by omega
    clear h
    by_cases h2 : 200 < k
    · go_enter Try.func76, Try.ntmps76
      go_wp2_with fail
      refine HN.out.mono ?_
      rintro e w1 ⟨x, rfl, hx1, hx2, hc1, hg1⟩
      go_wp2_with fail
      refine (next_any c (n + 1) w1 hc1 (by omega)).mono ?_
      rintro e w2 ⟨y, rfl, hy1, hy2, hc2, hg2⟩
      have HX := Lib.hid (And.intro (Int.emod_nonneg (x * 256 + y) hk0) (Int.emod_lt_of_pos (x * 256 + y) (by omega : 0 < k)))
      have hte : (x * 256 + y).tmod k = (x * 256 + y) % k := Int.tmod_eq_emod_of_nonneg (by omega)
      have HC := Lib.hid (And.intro hc2 (grown_trans hg1 hg2))
      clear hc1 hc2 hg1 hg2
      go_wp2
      go_ret
      exact ⟨_, rfl, HX.out.1, .inl HX.out.2, HC.out.1, HC.out.2⟩
    · go_enter Try.func76, Try.ntmps76
      go_wp2_with fail
      refine HN.out.mono ?_
      rintro e w1 ⟨x, rfl, hx1, hx2, hc1, hg1⟩
      have HX := Lib.hid (And.intro (Int.emod_nonneg x hk0) (Int.emod_lt_of_pos x (by omega : 0 < k)))
      have hte : x.tmod k = x % k := Int.tmod_eq_emod_of_nonneg (by omega)
      have HC := Lib.hid (And.intro (hc1.mono (by omega : n + 1 ≤ n + 2)) hg1)
      clear hc1 hg1
      go_wp2
      go_ret
      exact ⟨_, rfl, HX.out.1, .inl HX.out.2, HC.out.1, HC.out.2⟩

theorem one_any (c n : Nat) (k : Int) (w : World) (h : Cur c w n) (hn : n ≤ 1073741800) (hk : k ≤ 65536) :
    Calls Try.prog 78 #[.pointer (some ⟨c, 0, none⟩), .int .i64 k] w fun e w' => ∃ b : Bool, e = .returned (.bool b) ∧ Cur c w' (n + 2) ∧ w.grownBy w' (some c) := by
  have HP := Lib.hid (pick_any c n k w h hn hk)
  clear h
  go_enter Try.func78, Try.ntmps78
  go_wp2_with fail
  refine HP.out.mono ?_
  rintro e w1 ⟨x, rfl, hx1, hx2, hc1, hg1⟩
  have HC := Lib.hid (And.intro hc1 hg1)
  clear hc1 hg1 hx2
  go_wp2
  go_ret
  exact ⟨_, rfl, HC.out.1, HC.out.2⟩

set_option maxHeartbeats 2000000 in
theorem among_any (c n : Nat) (xs : List Int) (v : Value) (w : World) (h : Cur c w n) (hn : n ≤ 1073741800) (hs : Sl (Flat ints) 1 w v xs) (h0 : 0 < xs.length) (hl : xs.length ≤ 65536) (hne : ∀ A m d, v = .slice (some A) m d → A.block ≠ c) :
    Calls Try.prog 75 #[.pointer (some ⟨c, 0, none⟩), v] w fun e w' => ∃ x ∈ xs, e = .returned (.int .i64 x) ∧ Cur c w' (n + 2) ∧ w.grownBy w' (some c) := by
  have HP := Lib.hid (pick_any c n xs.length w h hn (by omega))
  obtain ⟨A, d, rfl, hd, hm, hk⟩ := hs.open_
  obtain ⟨b, off, rfl, hat⟩ := flat_at hk h0
  have hbc := hne ⟨b, off, none⟩ _ _ rfl
  simp only at hbc
  have HAT := Lib.hid hat
  clear h hs hk hat hne
  go_enter Try.func75, Try.ntmps75
  go_wp2_with fail
  refine HP.out.mono ?_
  rintro e w1 ⟨x, rfl, hx1, hx2, hc1, hg1⟩
  obtain ⟨k, rfl⟩ : ∃ k : Nat, x = k := ⟨x.toNat, by omega⟩
  have hkl : k < xs.length := by omega
  have hcell := int_at (HAT.out k hkl)
  rw [Nat.mul_one] at hcell
  have hcell1 := hg1.cell_far_ hcell (fun e => hbc (Option.some.inj e).symm)
  obtain ⟨y, hy⟩ : ∃ y, xs[k] = y := ⟨_, rfl⟩
  have HY := Lib.hid (show y ∈ xs from hy ▸ List.getElem_mem hkl)
  rw [hy] at hcell1
  have HC := Lib.hid (And.intro hc1 hg1)
  clear hc1 hg1 hx2 hcell hy
  go_wp2
  go_ret
  exact ⟨y, HY.out, rfl, HC.out.1, HC.out.2⟩
end Go.Proofs.Ytabgmbmaakglkaa
