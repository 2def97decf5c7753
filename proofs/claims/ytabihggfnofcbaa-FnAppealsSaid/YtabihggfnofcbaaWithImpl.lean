/- The walks of the program's four changes of a protest. No condition. -/
import Derived.Test.YtabihggfnofcbaaWith
namespace Go.Proofs.Ytabihggfnofcbaa
open Go Go.RowKit

theorem row_range (base g n cap k : Nat) (x : List Prot) (W : World) (hrow : Row base 25 6 W (.slice (some ⟨g, 0, none⟩) n cap) (x.map Prot.lst)) (hk : k < x.length) : W.rangeAt g (k * 6) x[k].lst := by
  have := hrow.range (k := k) (by simpa using hk)
  rw [List.getElem_map] at this
  exact this

/-! ### The closures that change one protest of a list -/
theorem hear1_any (base g n cap k : Nat) (x : List Prot) (W : World) (hrow : Row base 25 6 W (.slice (some ⟨g, 0, none⟩) n cap) (x.map Prot.lst)) (hk : k < x.length) :
    Calls Try.prog 76 #[.pointer (some ⟨g, k * 6, none⟩)] W fun e W' => e = .returned (.tuple #[]) ∧ Row base 25 6 W' (.slice (some ⟨g, 0, none⟩) n cap) ((x.set k (fHear x[k])).map Prot.lst) ∧ W.grownBy W' (some g) := by
  have hkm : k < (x.map Prot.lst).length := by simpa using hk
  go_enter Try.func76, Try.ntmps76
  go_wp2_with (first
    | (refine put1_ (e := 25) (sz := 6) rfl _ _ _ rfl infoInt base g n cap k 4 _ _ _ hrow hkm (by omega) rfl rfl rfl ?_; intro w1 hrow1 hg1)
    | (refine put1_ (e := 25) (sz := 6) rfl _ _ _ rfl infoInt base g n cap k 5 _ _ _ hrow1 ?_ (by omega) rfl rfl rfl ?_; (simpa using hk); intro w2 hrow2 hg2))
  go_end0
  simp only [List.set_set, List.getElem_set_self, List.getElem_map] at hrow2
  exact ⟨rfl, Row.set_eq hrow2 rfl, grown_trans hg1 hg2⟩

theorem appeal2_any (base g n cap k : Nat) (x : List Prot) (W : World) (hrow : Row base 25 6 W (.slice (some ⟨g, 0, none⟩) n cap) (x.map Prot.lst)) (hk : k < x.length) :
    Calls Try.prog 79 #[.pointer (some ⟨g, k * 6, none⟩)] W fun e W' => e = .returned (.tuple #[]) ∧ Row base 25 6 W' (.slice (some ⟨g, 0, none⟩) n cap) ((x.set k (fAppeal x[k])).map Prot.lst) ∧ W.grownBy W' (some g) := by
  have hkm : k < (x.map Prot.lst).length := by simpa using hk
  go_enter Try.func79, Try.ntmps79
  go_wp2_with (first
    | (refine put1_ (e := 25) (sz := 6) rfl _ _ _ rfl infoInt base g n cap k 4 _ _ _ hrow hkm (by omega) rfl rfl rfl ?_; intro w1 hrow1 hg1)
    | (refine put1_ (e := 25) (sz := 6) rfl _ _ _ rfl infoInt base g n cap k 5 _ _ _ hrow1 ?_ (by omega) rfl rfl rfl ?_; (simpa using hk); intro w2 hrow2 hg2))
  go_end0
  simp only [List.set_set, List.getElem_set_self, List.getElem_map] at hrow2
  exact ⟨rfl, Row.set_eq hrow2 rfl, grown_trans hg1 hg2⟩

theorem decide1_any (base g n cap k : Nat) (x : List Prot) (W : World) (hrow : Row base 25 6 W (.slice (some ⟨g, 0, none⟩) n cap) (x.map Prot.lst)) (hk : k < x.length) :
    Calls Try.prog 80 #[.pointer (some ⟨g, k * 6, none⟩)] W fun e W' => e = .returned (.tuple #[]) ∧ Row base 25 6 W' (.slice (some ⟨g, 0, none⟩) n cap) ((x.set k (fDecide x[k])).map Prot.lst) ∧ W.grownBy W' (some g) := by
  have hkm : k < (x.map Prot.lst).length := by simpa using hk
  by_cases hv : 0 < x[k].votes
  · have HV := Lib.hid (show fDecide x[k] = ⟨x[k].id, x[k].against, x[k].by_, x[k].made, 2, x[k].votes⟩ by simp [fDecide, hv])
    go_enter Try.func80, Try.ntmps80
    go_wp2_with (first
      | (refine put1_ (e := 25) (sz := 6) rfl _ _ _ rfl infoInt base g n cap k 4 _ _ _ hrow hkm (by omega) rfl rfl rfl ?_; intro w1 hrow1 hg1; have hcv : w1.cell? ⟨g, k * 6 + 5, none⟩ = some (.int .i64 x[k].votes) := (by rw [hrow1.cell (k := k) (by simpa using hk) (by omega)]; simp [Prot.lst]))
      | (refine put1_ (e := 25) (sz := 6) rfl _ _ _ rfl infoInt base g n cap k 4 _ _ _ hrow1 ?_ (by omega) rfl rfl rfl ?_; (simpa using hk); intro w2 hrow2 hg2))
    go_end0
    simp only [List.set_set, List.getElem_set_self, List.getElem_map] at hrow2
    rw [HV.out]
    exact ⟨rfl, Row.set_eq hrow2 rfl, grown_trans hg1 hg2⟩
  · have HV := Lib.hid (show fDecide x[k] = ⟨x[k].id, x[k].against, x[k].by_, x[k].made, 3, x[k].votes⟩ by simp [fDecide, hv])
    go_enter Try.func80, Try.ntmps80
    go_wp2_with (refine put1_ (e := 25) (sz := 6) rfl _ _ _ rfl infoInt base g n cap k 4 _ _ _ hrow hkm (by omega) rfl rfl rfl ?_; intro w1 hrow1 hg1; have hcv : w1.cell? ⟨g, k * 6 + 5, none⟩ = some (.int .i64 x[k].votes) := (by rw [hrow1.cell (k := k) (by simpa using hk) (by omega)]; simp [Prot.lst]))
    go_end0
    simp only [List.getElem_map] at hrow1
    rw [HV.out]
    exact ⟨rfl, Row.set_eq hrow1 rfl, hg1⟩

theorem vote1_any (pro : Bool) (pb po : Nat) (base g n cap k : Nat) (x : List Prot) (W : World) (hrow : Row base 25 6 W (.slice (some ⟨g, 0, none⟩) n cap) (x.map Prot.lst)) (hk : k < x.length)
    (hc : W.cell? ⟨pb, po, none⟩ = some (.bool pro)) (hs : x[k].state = 1) (h1 : -5 ≤ x[k].votes) (h2 : x[k].votes ≤ 5) :
    Calls Try.prog 81 #[.pointer (some ⟨g, k * 6, none⟩), .pointer (some ⟨pb, po, none⟩)] W fun e W' => e = .returned (.tuple #[]) ∧ Row base 25 6 W' (.slice (some ⟨g, 0, none⟩) n cap) ((x.set k (fVote pro x[k])).map Prot.lst) ∧ W.grownBy W' (some g) := by
  have hkm : k < (x.map Prot.lst).length := by simpa using hk
  have hcs := (Prot.cells (row_range base g n cap k x W hrow hk)).2.2.2.2.2
  have HS := Lib.hid hs
  clear hs
  cases pro with
  | true =>
    go_enter Try.func81, Try.ntmps81
    go_wp2_with (refine put1_ (e := 25) (sz := 6) rfl _ _ _ rfl infoInt base g n cap k 5 _ _ _ hrow hkm (by omega) rfl rfl rfl ?_; intro w1 hrow1 hg1)
    go_end0
    simp only [List.getElem_map] at hrow1
    refine ⟨rfl, Row.set_eq hrow1 ?_, hg1⟩
    simp [Prot.lst, fVote, HS.out]
  | false =>
    go_enter Try.func81, Try.ntmps81
    go_wp2_with (refine put1_ (e := 25) (sz := 6) rfl _ _ _ rfl infoInt base g n cap k 5 _ _ _ hrow hkm (by omega) rfl rfl rfl ?_; intro w1 hrow1 hg1)
    go_end0
    simp only [List.getElem_map] at hrow1
    refine ⟨rfl, Row.set_eq hrow1 ?_, hg1⟩
    simp [Prot.lst, fVote, HS.out]

/-! ### The library's search in a slice of integers -/
def idxI (xs : List Int) (n : Int) : Int := match xs.findIdx? (fun y => n == y) with | some k => k | none => -1
theorem idxI_found {xs : List Int} {n : Int} {k : Nat} (hk : k < xs.length) (h : (n == xs[k]) = true) (hb : ∀ j (h : j < xs.length), j < k → (n == xs[j]) = false) : idxI xs n = k := by
  have : xs.findIdx? (fun y => n == y) = some k := by
    rw [List.findIdx?_eq_some_iff_getElem]
    exact ⟨hk, h, fun j hj => by rw [hb j (by omega) hj]; simp⟩
  simp [idxI, this]
theorem idxI_none {xs : List Int} {n : Int} (hb : ∀ j (h : j < xs.length), (n == xs[j]) = false) : idxI xs n = -1 := by
  have : xs.findIdx? (fun y => n == y) = none := by
    rw [List.findIdx?_eq_none_iff]
    intro x hx
    obtain ⟨j, hj, rfl⟩ := List.getElem_of_mem hx
    exact hb j hj
  simp [idxI, this]
theorem idxI_any (xs : List Int) (n : Int) : decide (0 ≤ idxI xs n) = xs.any (fun y => n == y) := by
  unfold idxI
  cases h2 : xs.findIdx? (fun y => n == y) with
  | none =>
    rw [List.findIdx?_eq_none_iff] at h2
    have : xs.any (fun y => n == y) = false := by
      rw [List.any_eq_false]
      intro x hx
      rw [h2 x hx]; simp
    rw [this]; rfl
  | some k =>
    have h3 := List.findIdx?_eq_some_iff_getElem.1 h2
    have : xs.any (fun y => n == y) = true := List.any_eq_true.2 ⟨_, List.getElem_mem h3.1, h3.2.1⟩
    rw [this]; simp

set_option maxHeartbeats 1000000 in
theorem indexIntP_any (xs : List Int) (v : Value) (n : Int) (w : World) (h : Sl (Flat ints) 1 w v xs) :
    Calls Try.prog 99 #[v, .int .i64 n] w fun e w' => e = .returned (.int .i64 (idxI xs n)) ∧ w = w' := by
  obtain ⟨A, c, rfl, hc, hm, hk⟩ := h.open_
  go_enter Try.func99, Try.ntmps99
  go_wp2
  go_loop [8] (fun i => ∃ k : Nat, k ≤ xs.length ∧ i = .int .i64 k ∧ Hid (∀ j (h : j < xs.length), j < k → (n == xs[j]) = false))
    (fun i => xs.length - (intOf i).toNat)
  case atStart => exact ⟨0, Nat.zero_le _, rfl, fun j h hj => absurd hj (by omega)⟩
  case round =>
    obtain ⟨k, hkl, rfl, HS⟩ := hrel
    by_cases hlt : k < xs.length
    · obtain ⟨b, off, rfl, hat⟩ := flat_at hk (by omega)
      have hcs := int_at (hat k hlt)
      rw [Nat.mul_one] at hcs
      clear hat hk h
      by_cases hp : (n == xs[k]) = true
      · have HP := Lib.hid hp
        go_wp2
        go_ret
        exact ⟨ret_int (idxI_found hlt HP.out HS.out).symm, rfl⟩
      · have hp' : (n == xs[k]) = false := by simpa using hp
        have HP := Lib.hid hp'
        clear hp
        go_wp2
        go_round
        case rel => exact ⟨k + 1, by omega, by go_num, fun j hj hjk => by
          by_cases e : j < k
          · exact HS.out j hj e
          · obtain rfl : j = k := by omega
            exact HP.out⟩
        case measure => simp [intOf]; omega
    · go_wp2
      go_ret
      obtain rfl : k = xs.length := by omega
      exact ⟨ret_int (idxI_none fun j hj => HS.out j hj hj).symm, rfl⟩
theorem containsIntP_any (xs : List Int) (v : Value) (n : Int) (w : World) (h : Sl (Flat ints) 1 w v xs) :
    Calls Try.prog 94 #[v, .int .i64 n] w fun e w' => e = .returned (.bool (xs.any (fun y => n == y))) ∧ w = w' := by
  rw [← idxI_any]
  go_enter Try.func94, Try.ntmps94
  go_wp2_with (go_at_call 99; refine (indexIntP_any xs v n _ h).mono ?_; rintro e w' ⟨rfl, rfl⟩)
  go_ret
  exact ⟨rfl, rfl⟩

/-! ### The predicate that finds an Id -/
theorem hasId_93 (p : Prot) (id : Int) (b o : Nat) (w : World) (hc : w.cell? ⟨b, o, none⟩ = some (.int .i64 id)) :
    Calls Try.prog 93 #[p.val, .pointer (some ⟨b, o, none⟩)] w fun e w' => e = .returned (.bool (hasId id p)) ∧ Below w.heap.size w w' := by
  obtain ⟨n0, n1, n2, n3, n4, n5⟩ := p
  have hlt := block_lt_of_cell hc
  show Calls Try.prog 93 #[.agg #[.int .i64 n0, .int .i64 n1, .int .i64 n2, .int .i64 n3, .int .i64 n4, .int .i64 n5], .pointer (some ⟨b, o, none⟩)] w _
  go_enter Try.func93, Try.ntmps93
  go_wp2
  go_ret
  refine ⟨rfl, ?_⟩
  (repeat (first | exact Below.refl _ _ | assumption | refine Below.drew ?_ | refine Below.alloc ?_ (by first | exact Nat.le_refl _ | (simp; done) | (simp; omega)) _))
theorem hasId_78 (p : Prot) (id : Int) (b o : Nat) (w : World) (hc : w.cell? ⟨b, o, none⟩ = some (.int .i64 id)) :
    Calls Try.prog 78 #[p.val, .pointer (some ⟨b, o, none⟩)] w fun e w' => e = .returned (.bool (hasId id p)) ∧ Below w.heap.size w w' := by
  obtain ⟨n0, n1, n2, n3, n4, n5⟩ := p
  have hlt := block_lt_of_cell hc
  show Calls Try.prog 78 #[.agg #[.int .i64 n0, .int .i64 n1, .int .i64 n2, .int .i64 n3, .int .i64 n4, .int .i64 n5], .pointer (some ⟨b, o, none⟩)] w _
  go_enter Try.func78, Try.ntmps78
  go_wp2
  go_ret
  refine ⟨rfl, ?_⟩
  (repeat (first | exact Below.refl _ _ | assumption | refine Below.drew ?_ | refine Below.alloc ?_ (by first | exact Nat.le_refl _ | (simp; done) | (simp; omega)) _))
end Go.Proofs.Ytabihggfnofcbaa
