/- The walks of CanPublish, of the program and of the reference. No condition. -/
import Derived.Test.YtabihggfnofcbaaPendProtests
import Derived.Test.YtabihggfnofcbaaIdx
namespace Go.Proofs.Ytabihggfnofcbaa
open Go Go.RowKit

theorem inB_and {n lo hi : Int} : inB n lo hi = true → lo ≤ n ∧ n ≤ hi := inB_iff.1
/-- The bounds of a protest that is one. -/
theorem specOne_bounds {p : Prot} (h : specOne p = true) : (1 ≤ p.id ∧ p.id ≤ 99) ∧ (1 ≤ p.against ∧ p.against ≤ 999) ∧ (1 ≤ p.by_ ∧ p.by_ ≤ 999) ∧ (0 ≤ p.made ∧ p.made ≤ 36000) ∧ (0 ≤ p.state ∧ p.state ≤ 4) ∧ (-5 ≤ p.votes ∧ p.votes ≤ 5) := by
  have h' := h
  rw [← one_eq] at h'
  unfold specOne at h
  unfold implOne at h'
  split at h
  · cases h
  · split at h'
    · cases h'
    · rename_i h1 h2
      simp only [Bool.or_eq_true, not_or, Bool.not_eq_true', Bool.not_eq_false, inB_iff] at h1 h2
      omega
theorem good_at {x : List Prot} (h : good x = true) {k : Nat} (hk : k < x.length) : specOne x[k] = true := ((good_iff.1 h).1 k hk).1

/-- A refused protest that can be appealed at a time. -/
def appB (t : Int) (p : Prot) : Bool := p.state == 3 && inB (t - p.made) 0 900
noncomputable def canM (x : List Prot) (t : Int) : Bool := (good x && inB t 0 36000) && (pend x).isEmpty && !(x.any (appB t))
noncomputable def okM (x : List Prot) (t : Int) : Bool := good x && inB t 0 36000
theorem any_take (pr : Prot → Bool) (x : List Prot) (k : Nat) (h : k < x.length) : (x.take (k + 1)).any pr = ((x.take k).any pr || pr x[k]) := by
  rw [List.take_succ_eq_append_getElem h, List.any_append]
  simp

theorem inB_shift (t d : Int) : inB t d (d + 900) = inB (t - d) 0 900 := by
  rw [Bool.eq_iff_iff, inB_iff, inB_iff]; omega
set_option maxHeartbeats 1000000 in
theorem canAppeal_any (p : Prot) (t : Int) (w : World) (hm : 0 ≤ p.made) (hm2 : p.made ≤ 36000) (h0 : 0 ≤ t) (h1 : t ≤ 36000) :
    Calls Try.prog 72 #[p.val, .int .i64 t] w fun e w' => e = .returned (.bool (appB t p)) ∧ Below w.heap.size w w' := by
  obtain ⟨a, b, c, d, s, v⟩ := p
  simp only at hm hm2
  show Calls Try.prog 72 #[.agg #[.int .i64 a, .int .i64 b, .int .i64 c, .int .i64 d, .int .i64 s, .int .i64 v], .int .i64 t] w _
  have HT := inB_true h0 h1
  go_enter Try.func72, Try.ntmps72
  go_wp2_with (first
    | (go_at_call 61; refine (inside_any _ _ _ _).mono ?_; rintro e w' ⟨rfl, rfl⟩)
    | (go_at_call 63; refine (isTime_any _ _).mono ?_; rintro e w' ⟨rfl, rfl⟩))
  all_goals go_ret
  all_goals refine ⟨ret_bool ?_, ?_⟩
  all_goals first
    | ((repeat (first | exact Below.refl _ _ | assumption | refine Below.drew ?_ | refine Below.alloc ?_ (by first | exact Nat.le_refl _ | (simp; done) | (simp; omega)) _)); done)
    | (simp [appB, *]; done)
    | (simp [appB, inB_shift, *]; done)

theorem canPublish1_any (p : Prot) (t : Int) (b o : Nat) (w : World) (hc : w.cell? ⟨b, o, none⟩ = some (.int .i64 t)) (hm : 0 ≤ p.made) (hm2 : p.made ≤ 36000) (h0 : 0 ≤ t) (h1 : t ≤ 36000) :
    Calls Try.prog 71 #[p.val, .pointer (some ⟨b, o, none⟩)] w fun e w' => e = .returned (.bool (appB t p)) ∧ Below w.heap.size w w' := by
  have HC := Lib.hid hc
  have hlt := block_lt_of_cell hc
  go_enter Try.func71, Try.ntmps71
  go_wp2_with (first
    | ((with_reducible refine at_load_ 25 ?_); refine stProtImpl.load rfl _ rfl _ _ rfl p.lst rfl (rangeAt_new _ _ _) ?_)
    | (go_at_call 72; refine (canAppeal_any p t _ hm hm2 h0 h1).mono ?_; rintro e w1 ⟨rfl, hb1⟩))
  go_ret
  refine ⟨rfl, step_ (Below.alloc (Below.refl _ _) (Nat.le_refl _) _) (Nat.le_refl _) hb1⟩

set_option maxHeartbeats 1000000 in
theorem impl_CanPublish (x : List Prot) (v : Value) (t : Int) (w : World) (h : Sl (Flat Prot.lst) 6 w v x) (_ : ∀ p ∈ x, Prot.ok p) (_ : I64 t) :
    Calls Try.prog 25 #[v, .int .i64 t] w fun e w' => e = .returned (.tuple #[.bool (canM x t), .bool (okM x t)]) ∧ Below w.heap.size w w' := by
  by_cases hg : good x = true
  · by_cases ht : inB t 0 36000 = true
    · have ht2 := inB_and ht
      have hn := (good_iff.1 hg).2
      have hB0 : Below w.heap.size w (w.alloc (.cells #[.int .i64 t] 3)) := by (repeat (first | exact Below.refl _ _ | assumption | refine Below.drew ?_ | refine Below.alloc ?_ (by first | exact Nat.le_refl _ | (simp; done) | (simp; omega)) _))
      have hc0 : (w.alloc (.cells #[.int .i64 t] 3)).cell? ⟨w.heap.size, 0, none⟩ = some (.int .i64 t) := rangeAt_new w [.int .i64 t] 3 0 _ rfl
      have HG := Lib.hid hg
      by_cases hp : (pend x).isEmpty = true
      · have hp0 : pend x = [] := by simpa using hp
        have e1 : canM x t = !(x.any (appB t)) := by simp [canM, hg, ht, hp]
        have e2 : okM x t = true := by simp [okM, hg, ht]
        rw [e1, e2]
        have HP := Lib.hid hp0
        clear e1 e2 hp hp0
        go_enter Try.func25, Try.ntmps25
        go_wp2_with fail
        generalize w.alloc (.cells #[.int .i64 t] 3) = W0 at hB0 hc0 ⊢
        refine (areProtests_any x v _ (h.below (Flat.keeps _) hB0)).mono ?_
        rintro e w1 ⟨rfl, hb1⟩
        have hB1 := step_ hB0 (Nat.le_refl _) hb1
        have hc1 := After.keep hc0 ⟨w1, hb1⟩
        simp only at hc1
        go_wp2_with (go_at_call 63; refine (isTime_any _ _).mono ?_; rintro e w' ⟨rfl, rfl⟩)
        refine (pendingProtests_any x v _ (h.below (Flat.keeps _) hB1) (by omega)).mono ?_
        rintro e w2 ⟨r, rfl, hrow, hb2⟩
        rw [HP.out] at hrow
        have hc2 := After.keep hc1 ⟨w2, hb2⟩
        simp only at hc2
        have hB2 := step_ hB1 (Nat.le_refl _) hb2
        obtain ⟨A, c, rfl, _⟩ := Sl.of_flat hrow
        go_wp2_with fail
        refine (containsFunc_71 _ (appB t) x v _ (h.below (Flat.keeps _) hB2) (fun s k hk => ?_)).mono ?_
        · have bd := specOne_bounds (good_at HG.out hk)
          exact canPublish1_any x[k] t _ _ _ (After.keep hc2 s) bd.2.2.2.1.1 bd.2.2.2.1.2 ht2.1 ht2.2
        rintro e w3 ⟨rfl, hb3⟩
        go_wp2_with fail
        go_ret2
        exact ⟨rfl, step_ hB2 (Nat.le_refl _) hb3⟩
      · have hp0 : 0 < (pend x).length := by
          rw [List.isEmpty_iff] at hp
          exact List.length_pos_iff.2 hp
        have e1 : canM x t = false := by simp [canM, hp]
        have e2 : okM x t = true := by simp [okM, hg, ht]
        rw [e1, e2]
        clear e1 e2 hp
        go_enter Try.func25, Try.ntmps25
        go_wp2_with fail
        generalize w.alloc (.cells #[.int .i64 t] 3) = W0 at hB0 hc0 ⊢
        refine (areProtests_any x v _ (h.below (Flat.keeps _) hB0)).mono ?_
        rintro e w1 ⟨rfl, hb1⟩
        have hB1 := step_ hB0 (Nat.le_refl _) hb1
        have hc1 := After.keep hc0 ⟨w1, hb1⟩
        simp only at hc1
        go_wp2_with (go_at_call 63; refine (isTime_any _ _).mono ?_; rintro e w' ⟨rfl, rfl⟩)
        refine (pendingProtests_any x v _ (h.below (Flat.keeps _) hB1) (by omega)).mono ?_
        rintro e w2 ⟨r, rfl, hrow, hb2⟩
        have hc2 := After.keep hc1 ⟨w2, hb2⟩
        simp only at hc2
        have hB2 := step_ hB1 (Nat.le_refl _) hb2
        obtain ⟨A, c, rfl, _⟩ := Sl.of_flat hrow
        have hp1 : (((pend x).length : Int) == 0) = false := by rw [beq_eq_false_iff_ne]; omega
        go_wp2_with fail
        go_ret2
        exact ⟨rfl, hB2⟩
    · have ht' : inB t 0 36000 = false := by simpa using ht
      have e1 : canM x t = false := by simp [canM, ht']
      have e2 : okM x t = false := by simp [okM, ht']
      have hB0 : Below w.heap.size w (w.alloc (.cells #[.int .i64 t] 3)) := by (repeat (first | exact Below.refl _ _ | assumption | refine Below.drew ?_ | refine Below.alloc ?_ (by first | exact Nat.le_refl _ | (simp; done) | (simp; omega)) _))
      have hc0 : (w.alloc (.cells #[.int .i64 t] 3)).cell? ⟨w.heap.size, 0, none⟩ = some (.int .i64 t) := rangeAt_new w [.int .i64 t] 3 0 _ rfl
      rw [e1, e2]
      clear e1 e2 ht
      go_enter Try.func25, Try.ntmps25
      go_wp2_with fail
      generalize w.alloc (.cells #[.int .i64 t] 3) = W0 at hB0 hc0 ⊢
      refine (areProtests_any x v _ (h.below (Flat.keeps _) hB0)).mono ?_
      rintro e w1 ⟨rfl, hb1⟩
      have hB1 := step_ hB0 (Nat.le_refl _) hb1
      have hc1 := After.keep hc0 ⟨w1, hb1⟩
      simp only at hc1
      go_wp2_with (go_at_call 63; refine (isTime_any _ _).mono ?_; rintro e w' ⟨rfl, rfl⟩)
      go_ret2
      exact ⟨rfl, hB1⟩
  · have hg' : good x = false := by simpa using hg
    have e1 : canM x t = false := by simp [canM, hg']
    have e2 : okM x t = false := by simp [okM, hg']
    have hB0 : Below w.heap.size w (w.alloc (.cells #[.int .i64 t] 3)) := by (repeat (first | exact Below.refl _ _ | assumption | refine Below.drew ?_ | refine Below.alloc ?_ (by first | exact Nat.le_refl _ | (simp; done) | (simp; omega)) _))
    rw [e1, e2]
    clear e1 e2 hg
    go_enter Try.func25, Try.ntmps25
    go_wp2_with fail
    generalize w.alloc (.cells #[.int .i64 t] 3) = W0 at hB0 ⊢
    refine (areProtests_any x v _ (h.below (Flat.keeps _) hB0)).mono ?_
    rintro e w1 ⟨rfl, hb1⟩
    have hB1 := step_ hB0 (Nat.le_refl _) hb1
    go_wp2_with fail
    go_ret2
    exact ⟨rfl, hB1⟩

set_option maxHeartbeats 1000000 in
theorem spec_CanPublish (x : List Prot) (v : Value) (t : Int) (w : World) (h : Sl (Flat Prot.lst) 6 w v x) (_ : ∀ p ∈ x, Prot.ok p) (_ : I64 t) :
    Calls Try.prog 24 #[v, .int .i64 t] w fun e w' => e = .returned (.tuple #[.bool (canM x t), .bool (okM x t)]) ∧ Below w.heap.size w w' := by
  by_cases hg : good x = true
  · by_cases ht : inB t 0 36000 = true
    · have ht2 := inB_and ht
      have hn := (good_iff.1 hg).2
      have HG := Lib.hid hg
      have e1 : canM x t = ((pend x).isEmpty && !(x.any (appB t))) := by simp [canM, hg, ht]
      have e2 : okM x t = true := by simp [okM, hg, ht]
      rw [e1, e2]
      clear e1 e2
      obtain ⟨A0, c0, rfl, hc0, hm0, hk0⟩ := h.open_
      go_enter Try.func24, Try.ntmps24
      go_wp2_with (first
        | (go_at_call 64; refine (l22Good_any x _ _ h).mono ?_; rintro e w1 ⟨rfl, hb1⟩)
        | (go_at_call 66; refine (l12Time_any _ _).mono ?_; rintro e w' ⟨rfl, rfl⟩)
        | (go_at_call 67; refine (l22Pending_any x _ _ (h.below (Flat.keeps _) hb1) (by omega)).mono ?_; rintro e w2 ⟨r, rfl, hrow, hb2⟩; obtain ⟨A, c, rfl, _⟩ := Sl.of_flat hrow))
      have hB2 := step_ hb1 (Nat.le_refl _) hb2
      go_loopw [6, 7] (fun cv i wr => ∃ (k : Nat) (cb : Bool), k ≤ x.length ∧ i = .int .i64 k ∧ cv = .bool cb ∧ Hid (cb = ((pend x).isEmpty && !((x.take k).any (appB t)))) ∧ Below w.heap.size w wr)
        (fun _ i _ => x.length - (intOf i).toNat)
      case atStart =>
        refine ⟨0, _, Nat.zero_le _, rfl, rfl, ?_, hB2⟩
        show _ = _
        rw [Bool.eq_iff_iff]
        simp [List.length_eq_zero_iff]
      case round =>
        obtain ⟨k, cb, hkl, rfl, rfl, HC, hb⟩ := hrel
        by_cases hlt : k < x.length
        · obtain ⟨b, off, rfl, hat⟩ := flat_at hk0 (by omega)
          have hcs := Prot.cells (rangeAt_below (hat k hlt) hb)
          have bd := specOne_bounds (good_at HG.out hlt)
          have bm1 := bd.2.2.2.1.1
          have bm2 := bd.2.2.2.1.2
          have HA := Lib.hid (any_take (appB t) x k hlt)
          have ht3 := ht2.1
          have ht4 := ht2.2
          clear hat hk0 bd h ht2 hB2
          cases cb with
          | false =>
            go_wp2
            go_roundw
            case rel => exact ⟨k + 1, false, by omega, by go_num, rfl, by rw [HA.out, Bool.not_or, ← Bool.and_assoc, ← HC.out]; rfl, hb⟩
            case measure => simp [intOf]; omega
          | true =>
            by_cases h3 : x[k].state = 3
            · have h3' : (x[k].state != 3) = false := by simpa using h3
              have HE := Lib.hid (show appB t x[k] = inB (t - x[k].made) 0 900 by simp [appB, h3])
              clear h3
              go_wp2_with (go_at_call 68; refine (l1In_any _ _ _ _).mono ?_; rintro e w' ⟨rfl, rfl⟩)
              all_goals go_roundw
              all_goals first
                | exact ⟨k + 1, _, by omega, by go_num, rfl, by show _ = _; rw [HA.out, Bool.not_or, ← Bool.and_assoc, ← HC.out, HE.out]; simp, hb⟩
                | (simp [intOf]; omega)
            · have h3' : (x[k].state != 3) = true := by simpa using h3
              have HE := Lib.hid (show appB t x[k] = false by simp [appB, h3])
              clear h3
              go_wp2
              go_roundw
              case rel => exact ⟨k + 1, true, by omega, by go_num, rfl, by rw [HA.out, Bool.not_or, ← Bool.and_assoc, ← HC.out, HE.out]; rfl, hb⟩
              case measure => simp [intOf]; omega
        · go_wp2
          go_ret2
          obtain rfl : k = x.length := by omega
          rw [List.take_length] at HC
          have e := HC.out
          subst e
          exact ⟨rfl, hb⟩
    · have ht' : inB t 0 36000 = false := by simpa using ht
      have e1 : canM x t = false := by simp [canM, ht']
      have e2 : okM x t = false := by simp [okM, ht']
      rw [e1, e2]
      clear e1 e2 ht
      go_enter Try.func24, Try.ntmps24
      go_wp2_with (first
        | (go_at_call 64; refine (l22Good_any x v _ h).mono ?_; rintro e w1 ⟨rfl, hb1⟩)
        | (go_at_call 66; refine (l12Time_any _ _).mono ?_; rintro e w' ⟨rfl, rfl⟩))
      all_goals (go_ret2; exact ⟨rfl, hb1⟩)
  · have hg' : good x = false := by simpa using hg
    have e1 : canM x t = false := by simp [canM, hg']
    have e2 : okM x t = false := by simp [okM, hg']
    rw [e1, e2]
    clear e1 e2 hg
    go_enter Try.func24, Try.ntmps24
    go_wp2_with (go_at_call 64; refine (l22Good_any x v _ h).mono ?_; rintro e w1 ⟨rfl, hb1⟩)
    go_ret2
    exact ⟨rfl, hb1⟩
end Go.Proofs.Ytabihggfnofcbaa
