/- The walks of the small questions asked of passings. No condition. -/
import Derived.Test.YtbeonigmcbipeaaIdxA
import Derived.Test.YtbeonigmcbipeaaArePS
namespace Go.Proofs.Ytbeonigmcbipeaa
open Go Go.RowKit

set_option maxHeartbeats 1000000 in
theorem indexFunc_79 (cap0 : Value) (pr : Pas → Bool) (ps : List Pas) (v : Value) (w : World) (h : Sl (Flat Pas.lst) 2 w v ps)
    (hf : ∀ s : After w, ∀ k (hk : k < ps.length), Calls Try.prog 79 #[ps[k].val, cap0] s.w' fun e w' => e = .returned (.bool (pr ps[k])) ∧ Below s.w'.heap.size s.w' w') :
    Calls Try.prog 78 #[v, .func (.func 79) #[] #[cap0]] w fun e w' => e = .returned (.int .i64 (idxA pr ps)) ∧ Below w.heap.size w w' := by
  obtain ⟨A, c, rfl, hc, hm, hk⟩ := h.open_
  have HF := Lib.hid hf
  clear hf
  go_enter Try.func78, Try.ntmps78
  go_wp2
  go_loopw [8] (fun i wr => ∃ k : Nat, k ≤ ps.length ∧ i = .int .i64 k ∧ Hid (∀ j (h : j < ps.length), j < k → pr ps[j] = false) ∧ Below w.heap.size w wr)
    (fun i _ => ps.length - (intOf i).toNat)
  case atStart => exact ⟨0, Nat.zero_le _, rfl, fun j h hj => absurd hj (by omega), Below.refl _ _⟩
  case round =>
    obtain ⟨k, hkl, rfl, HS, hb⟩ := hrel
    by_cases hlt : k < ps.length
    · obtain ⟨b, off, rfl, hat⟩ := flat_at hk (by omega)
      have hr := rangeAt_below (hat k hlt) hb
      clear hat hk h
      go_wp2_with ((with_reducible refine at_load_ 49 ?_); refine Pas.loadImpl rfl _ rfl b (off + k * 2) rfl ps[k] hr ?_)
      refine (HF.out ⟨wr, hb⟩ k hlt).mono ?_
      rintro e w2 ⟨rfl, hb2⟩
      have hB := step_ hb (Nat.le_refl _) hb2
      by_cases hp : pr ps[k] = true
      · have HP := Lib.hid hp
        rw [hp]
        clear hp
        go_wp2
        go_ret
        exact ⟨ret_int (idxA_found hlt HP.out HS.out).symm, hB⟩
      · have hp' : pr ps[k] = false := by simpa using hp
        have HP := Lib.hid hp'
        rw [hp']
        clear hp hp'
        go_wp2
        go_roundw
        case rel => exact ⟨k + 1, by omega, by go_num, fun j hj hjk => by
          by_cases e : j < k
          · exact HS.out j hj e
          · obtain rfl : j = k := by omega
            exact HP.out, hB⟩
        case measure => simp [intOf]; omega
    · go_wp2
      go_ret
      obtain rfl : k = ps.length := by omega
      exact ⟨ret_int (idxA_none fun j hj => HS.out j hj hj).symm, hb⟩


noncomputable def askP (ks : List PK) (p : Int) : Bool := goodPs ks && inB p 0 3
def isRun (r : Int) (p : Pas) : Bool := p.k.runner == r

theorem isRun_any (p : Pas) (r : Int) (b : Nat) (w : World) (hc : w.cell? ⟨b, 0, none⟩ = some (.int .i64 r)) :
    Calls Try.prog 79 #[p.val, .pointer (some ⟨b, 0, none⟩)] w fun e w' => e = .returned (.bool (isRun r p)) ∧ Below w.heap.size w w' := by
  obtain ⟨⟨x, sp⟩, A, n, c⟩ := p
  have hlt := block_lt_of_cell hc
  simp only at hlt
  show Calls Try.prog 79 #[.agg #[.int .i64 x, .slice A n c], .pointer (some ⟨b, 0, none⟩)] w _
  have hcw : (w.alloc (.cells #[.int .i64 x, .slice A n c] 49)).cell? ⟨b, 0, none⟩ = some (.int .i64 r) := After.keep hc ⟨_, below_alloc (Below.refl _ _) _⟩
  go_enter Try.func79, Try.ntmps79
  go_wp2
  go_ret
  exact ⟨rfl, by (repeat (first | exact Below.refl _ _ | assumption | refine Below.drew ?_ | refine Below.alloc ?_ (by first | exact Nat.le_refl _ | (simp; done) | (simp; omega)) _))⟩

set_option maxHeartbeats 1000000 in
theorem passingIndex_any (xs : List Pas) (r : Int) (v : Value) (w : World) (h : PasS w v xs) :
    Calls Try.prog 58 #[v, .int .i64 r] w fun e w' => e = .returned (.int .i64 (idxA (isRun r) xs)) ∧ Below w.heap.size w w' := by
  have hW : Below w.heap.size w (w.alloc (.cells #[.int .i64 r] 3)) := by (repeat (first | exact Below.refl _ _ | assumption | refine Below.drew ?_ | refine Below.alloc ?_ (by first | exact Nat.le_refl _ | (simp; done) | (simp; omega)) _))
  have hc0 : (w.alloc (.cells #[.int .i64 r] 3)).cell? ⟨w.heap.size, 0, none⟩ = some (.int .i64 r) := rangeAt_new w [.int .i64 r] 3 0 _ rfl
  go_enter Try.func58, Try.ntmps58
  go_wp2_with fail
  generalize w.alloc (.cells #[.int .i64 r] 3) = W at hW hc0 ⊢
  refine (indexFunc_79 _ (isRun r) xs v W (h.1.below (Flat.keeps _) hW) (fun s k hk => isRun_any xs[k] r w.heap.size s.w' (After.keep hc0 s))).mono ?_
  rintro e w1 ⟨rfl, hb1⟩
  go_wp2
  go_ret
  exact ⟨rfl, step_ hW (Nat.le_refl _) hb1⟩

set_option maxHeartbeats 1000000 in
theorem l19Find_any (xs : List Pas) (r : Int) (v : Value) (w : World) (h : PasS w v xs) :
    Calls Try.prog 56 #[v, .int .i64 r] w fun e w' => e = .returned (.int .i64 (idxA (isRun r) xs)) ∧ Below w.heap.size w w' := by
  obtain ⟨A, c, rfl, hc, hm, hk⟩ := h.1.open_
  go_enter Try.func56, Try.ntmps56
  go_wp2
  go_loopw [5] (fun i wr => ∃ k : Nat, k ≤ xs.length ∧ i = .int .i64 k ∧ Hid (∀ j (h : j < xs.length), j < k → isRun r xs[j] = false) ∧ Below w.heap.size w wr)
    (fun i _ => xs.length - (intOf i).toNat)
  case atStart => exact ⟨0, Nat.zero_le _, rfl, fun j h hj => absurd hj (by omega), Below.refl _ _⟩
  case round =>
    obtain ⟨k, hkl, rfl, HS, hb⟩ := hrel
    by_cases hlt : k < xs.length
    · obtain ⟨b, off, rfl, hat⟩ := flat_at hk (by omega)
      have hcn := Pas.cells (rangeAt_below (hat k hlt) hb)
      have HX := Lib.hid (show isRun r xs[k] = (xs[k].k.runner == r) from rfl)
      obtain ⟨y, hy⟩ : ∃ y, y = xs[k].k.runner := ⟨_, rfl⟩
      rw [← hy] at hcn HX
      clear hat hk h hy
      by_cases hp : y = r
      · have hp' : (y == r) = true := by simpa using hp
        have HP := Lib.hid (show isRun r xs[k] = true by rw [HX.out]; exact hp')
        clear hp
        go_wp2
        go_ret
        exact ⟨ret_int (idxA_found hlt HP.out HS.out).symm, hb⟩
      · have hp' : (y == r) = false := by simpa using hp
        have HP := Lib.hid (show isRun r xs[k] = false by rw [HX.out]; exact hp')
        clear hp
        go_wp2
        go_roundw
        case rel => exact ⟨k + 1, by omega, by go_num, fun j hj hjk => by
          by_cases e : j < k
          · exact HS.out j hj e
          · obtain rfl : j = k := by omega
            exact HP.out, hb⟩
        case measure => simp [intOf]; omega
    · go_wp2
      go_ret
      obtain rfl : k = xs.length := by omega
      exact ⟨ret_int (idxA_none fun j hj => HS.out j hj hj).symm, hb⟩

theorem isPlace_any (xs : List Pas) (p : Int) (v : Value) (w : World) (h : PasS w v xs) :
    Calls Try.prog 59 #[v, .int .i64 p] w fun e w' => e = .returned (.bool (askP (xs.map Pas.k) p)) ∧ Below w.heap.size w w' := by
  by_cases hg : goodPs (xs.map Pas.k) = true
  · have HA := Lib.hid (show askP (xs.map Pas.k) p = inB p 0 3 by simp [askP, hg])
    have HG := Lib.hid hg
    clear hg
    go_enter Try.func59, Try.ntmps59
    go_wp2_with (first
      | (go_at_call 17; refine (arePassings_any xs v _ h).mono ?_; rintro e w1 ⟨rfl, hb1⟩; rw [HG.out])
      | (go_at_call 53; refine (inside_any _ _ _ _).mono ?_; rintro e w2 ⟨rfl, rfl⟩))
    go_ret
    exact ⟨ret_bool HA.out.symm, hb1⟩
  · have hg' : goodPs (xs.map Pas.k) = false := by simpa using hg
    have HA := Lib.hid (show askP (xs.map Pas.k) p = false by simp [askP, hg'])
    have HG := Lib.hid hg'
    clear hg hg'
    go_enter Try.func59, Try.ntmps59
    go_wp2_with (go_at_call 17; refine (arePassings_any xs v _ h).mono ?_; rintro e w1 ⟨rfl, hb1⟩; rw [HG.out])
    go_ret
    exact ⟨ret_bool HA.out.symm, hb1⟩
theorem l19Asked_any (xs : List Pas) (p : Int) (v : Value) (w : World) (h : PasS w v xs) :
    Calls Try.prog 57 #[v, .int .i64 p] w fun e w' => e = .returned (.bool (askP (xs.map Pas.k) p)) ∧ Below w.heap.size w w' := by
  by_cases hg : goodPs (xs.map Pas.k) = true
  · have HA := Lib.hid (show askP (xs.map Pas.k) p = inB p 0 3 by simp [askP, hg])
    have HG := Lib.hid hg
    clear hg
    go_enter Try.func57, Try.ntmps57
    go_wp2_with (first
      | (go_at_call 51; refine (l19Good_any xs v _ h).mono ?_; rintro e w1 ⟨rfl, hb1⟩; rw [HG.out])
      | (go_at_call 77; refine (l1In_any _ _ _ _).mono ?_; rintro e w2 ⟨rfl, rfl⟩))
    go_ret
    exact ⟨ret_bool HA.out.symm, hb1⟩
  · have hg' : goodPs (xs.map Pas.k) = false := by simpa using hg
    have HA := Lib.hid (show askP (xs.map Pas.k) p = false by simp [askP, hg'])
    have HG := Lib.hid hg'
    clear hg hg'
    go_enter Try.func57, Try.ntmps57
    go_wp2_with (go_at_call 51; refine (l19Good_any xs v _ h).mono ?_; rintro e w1 ⟨rfl, hb1⟩; rw [HG.out])
    go_ret
    exact ⟨ret_bool HA.out.symm, hb1⟩
end Go.Proofs.Ytbeonigmcbipeaa
