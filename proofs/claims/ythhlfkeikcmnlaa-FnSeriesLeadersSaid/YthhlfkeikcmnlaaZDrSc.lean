/- The draws of series' rows: races, a best number, scores, a runner. Condition: the cursor has not come too far. -/
import Derived.Test.YthhlfkeikcmnlaaZCodeDrw
import Derived.Test.YthhlfkeikcmnlaaZAddScore
namespace Go.Proofs.Ythhlfkeikcmnlaa
open Go Go.RowKit

/-- What a drawn score holds. -/
def DrawnS (s : Score) : Prop := (-200000 ≤ s.runner ∧ s.runner ≤ 200000) ∧ (-200000 ≤ s.race ∧ s.race ≤ 200000) ∧ (-200000 ≤ s.points ∧ s.points ≤ 200000)
theorem drawnS_snoc {ps : List Score} {p : Score} (h : ∀ q ∈ ps, DrawnS q) (hp : DrawnS p) : ∀ q ∈ ps ++ [p], DrawnS q := by
  intro q hq
  rcases List.mem_append.1 hq with hq | hq
  · exact h q hq
  · rw [List.mem_singleton.1 hq]; exact hp
theorem DrawnS.ok {s : Score} (h : DrawnS s) : Score.ok s := by
  obtain ⟨h1, h2, h3⟩ := h
  exact ⟨⟨by omega, by omega⟩, ⟨by omega, by omega⟩, by omega, by omega⟩
set_option maxRecDepth 100000 in
set_option maxHeartbeats 8000000 in
theorem scores20_any (c n : Nat) (w : World) (h : Cur c w n) (hn : n ≤ 10000) :
    Calls Try.prog 79 #[.pointer (some ⟨c, 0, none⟩)] w fun e w' => ∃ (r b : Int) (v : Value) (ps : List Score), e = .returned (.tuple #[.int .i64 r, .int .i64 b, v]) ∧ (-20 ≤ r ∧ r ≤ 20) ∧ (-20 ≤ b ∧ b ≤ 20) ∧ Row w.heap.size 33 3 w' v (ps.map Score.lst) ∧ ps.length ≤ 48 ∧ (∀ p ∈ ps, DrawnS p) ∧ Cur c w' (n + 500) ∧ w.grownBy w' (some c) := by
  have hlt := h.lt
  have HD := Lib.hid (Dr.start h)
  clear h
  go_enter Try.func79, Try.ntmps79
  go_wp2_with fail
  refine (pick_dr 6 HD.out (by omega) (by omega) (by omega)).mono ?_
  rintro e w' ⟨x1, hx1, rfl, hd, hg⟩
  replace HD := Lib.hid hd
  clear hd hg
  go_wp2_with fail
  refine (pick_dr (1 + x1) HD.out (by omega) (by omega) (by omega)).mono ?_
  rintro e w' ⟨x2, hx2, rfl, hd, hg⟩
  replace HD := Lib.hid hd
  clear hd hg
  have hsw : w.heap.size ≤ w'.heap.size := HD.out.size
  have HR := Lib.hid (show Row w.heap.size 33 3 (w'.alloc (.cells #[] 33)) (.slice (some ⟨w'.heap.size, 0, none⟩) 0 0) (([] : List Score).map Score.lst) from Row.lit_nil w' 33 3 hsw)
  replace HD := Lib.hid (HD.out.alloc (.cells #[] 33))
  clear hsw
  go_wp2_with fail
  refine (pick_dr 6 HD.out (by omega) (by omega) (by omega)).mono ?_
  rintro e w' ⟨x3, hx3, rfl, hd, hg⟩
  replace HD := Lib.hid hd
  replace HR := Lib.hid (HR.out.keptC (by omega) hg)
  clear hd hg
  go_wp2_with fail
  go_loopw [7, 8, 9] (fun ov rv nv wr => ∃ (k : Nat) (rn : Int) (ps : List Score), k ≤ 5 ∧ nv = .int .i64 k ∧ rv = .int .i64 rn ∧ 0 ≤ rn ∧ rn + 3 * k ≤ 15 ∧ Hid (ps.length + 6 * k ≤ 30) ∧ Hid (∀ p ∈ ps, DrawnS p) ∧ Hid (Row w.heap.size 33 3 wr ov (ps.map Score.lst)) ∧ Hid (Dr c w wr (n + 6 + 30 * (5 - k))))
    (fun _ _ nv _ => (intOf nv).toNat)
  case atStart => exact ⟨x3, 0, [], by omega, rfl, rfl, by omega, by omega, by show _ ≤ _; simp; omega, fun p hp => absurd hp (by simp), HR.out, HD.out.mono (by omega)⟩
  case round =>
    clear HR HD
    obtain ⟨k, rn, ps, hk5, rfl, rfl, hr0, hr1, HL, HP, HR, HD⟩ := hrel
    by_cases hk : 0 < k
    · have hkk : (0 : Int) < (k : Int) := by omega
      go_wp2_with fail
      refine (pick_dr 3 HD.out (by omega) (by omega) (by omega)).mono ?_
      rintro e w' ⟨x4, hx4, rfl, hd, hg⟩
      replace HD := Lib.hid hd
      replace HR := Lib.hid (HR.out.keptC (by omega) hg)
      clear hd hg
      go_wp2_with fail
      go_loopw [7, 10] (fun ov jv wr => ∃ (j : Nat) (qs : List Score), j ≤ x1 + 1 ∧ jv = .int .i64 (j + 1) ∧ Hid (qs.length ≤ ps.length + j) ∧ Hid (∀ p ∈ qs, DrawnS p) ∧ Hid (Row w.heap.size 33 3 wr ov (qs.map Score.lst)) ∧ Hid (Dr c w wr (n + 6 + 30 * (5 - k) + 2 + 4 * j)))
        (fun _ jv _ => x1 + 2 - (intOf jv).toNat)
      case atStart => exact ⟨0, ps, by omega, rfl, by show _ ≤ _; omega, HP.out, HR.out, HD.out.mono (by omega)⟩
      case round =>
        clear HR HD HP
        obtain ⟨j, qs, hj, rfl, HLJ, HP, HR, HD⟩ := hrel
        by_cases hjx : j < x1 + 1
        · have hjj : (j : Int) + 1 ≤ 1 + (x1 : Int) := by omega
          have HLEN := Lib.hid (show (qs.map Score.lst).length + 1 ≤ 2147483648 by have := HL.out; have := HLJ.out; simp; omega)
          go_wp2_with fail
          refine (one_dr 3 HD.out (by omega) (by omega)).mono ?_
          rintro e w' ⟨q, rfl, hd, hg⟩
          replace HD := Lib.hid hd
          replace HR := Lib.hid (HR.out.keptC (by omega) hg)
          clear hd hg
          cases q with
          | true =>
            go_wp2_with fail
            go_roundw
            case rel => exact ⟨j + 1, qs, by omega, by congr 1, by show _ ≤ _; have := HLJ.out; omega, HP.out, HR.out, HD.out.mono (by omega)⟩
            case measure => simp [intOf]; omega
          | false =>
            go_wp2_with fail
            refine (among_dr [0, 80, 90, 90, 100, 100, 1000] 0 1000 HD.out _ rfl _ _ rfl (by omega) _).mono ?_
            rintro e w' ⟨x5, rfl, hx5, hd, hg⟩
            replace HD := Lib.hid hd
            replace HR := Lib.hid (HR.out.keptC (by omega) hg)
            clear hd hg
            have HB := Lib.hid (show DrawnS ⟨rn + 1 + x4, (j : Int) + 1, x5⟩ from ⟨by simp only; omega, by simp only; omega, by simp only; omega⟩)
            have hsw : w.heap.size ≤ w'.heap.size := HD.out.size
            have HRA := Lib.hid (HR.out.alloc (.cells #[.int .i64 (rn + 1 + x4), .int .i64 ((j : Int) + 1), .int .i64 x5] 33))
            have HDA := Lib.hid (HD.out.alloc (.cells #[.int .i64 (rn + 1 + x4), .int .i64 ((j : Int) + 1), .int .i64 x5] 33))
            have HSR := Lib.hid (show Src (w'.alloc (.cells #[.int .i64 (rn + 1 + x4), .int .i64 ((j : Int) + 1), .int .i64 x5] 33)) 3 (some ⟨w'.heap.size, 0, none⟩) 1 [[.int .i64 (rn + 1 + x4), .int .i64 ((j : Int) + 1), .int .i64 x5]] from Src.lit w' 33 [.int .i64 (rn + 1 + x4), .int .i64 ((j : Int) + 1), .int .i64 x5] w'.heap.size rfl rfl (by simp [Value.oneCell']))
            have hsw2 : w.heap.size ≤ (w'.alloc (.cells #[.int .i64 (rn + 1 + x4), .int .i64 ((j : Int) + 1), .int .i64 x5] 33)).heap.size := by simp; omega
            go_wp2_with (at_builtin; refine tyScore.append rfl _ _ rfl w.heap.size _ _ rfl HRA.out _ 1 1 [[.int .i64 (rn + 1 + x4), .int .i64 ((j : Int) + 1), .int .i64 x5]] rfl HSR.out HLEN.out hsw2 ?_; intro o7 w7 hrow7 hg7 hat7)
            replace HD := Lib.hid (HDA.out.own hlt hg7 (fun g hg => (HRA.out.lt g hg).1))
            replace HR := Lib.hid (show Row w.heap.size 33 3 w7 o7 ((qs ++ [(⟨rn + 1 + x4, (j : Int) + 1, x5⟩ : Score)]).map Score.lst) from by simpa [Score.lst] using hrow7)
            clear HRA HDA HSR hrow7 hg7 hat7 hsw hsw2
            go_wp2_with fail
            go_roundw
            case rel => exact ⟨j + 1, _, by omega, by congr 1, by show _ ≤ _; have := HLJ.out; simp; omega, drawnS_snoc HP.out HB.out, HR.out, HD.out.mono (by omega)⟩
            case measure => simp [intOf]; omega
        · obtain rfl : j = x1 + 1 := by omega
          have hjj : ¬ ((x1 : Int) + 1 + 1 ≤ 1 + (x1 : Int)) := by omega
          go_wp2_with fail
          go_roundw
          case rel => exact ⟨k - 1, _, _, by omega, by congr 1; omega, rfl, by omega, by omega, by show _ ≤ _; have := HL.out; have := HLJ.out; omega, HP.out, HR.out, HD.out.mono (by omega)⟩
          case measure => simp [intOf]; omega
    · obtain rfl : k = 0 := by omega
      replace HL := Lib.hid (show ps.length ≤ 30 by have := HL.out; omega)
      have HLEN := Lib.hid (show (ps.map Score.lst).length + 1 ≤ 2147483648 by have := HL.out; simp; omega)
      go_wp2_with fail
      refine (pick_dr 40 HD.out (by omega) (by omega) (by omega)).mono ?_
      rintro e w' ⟨y, hy, rfl, hd, hg⟩
      replace HD := Lib.hid hd
      replace HR := Lib.hid (HR.out.keptC (by omega) hg)
      clear hd hg
      by_cases h0 : y = 0
      · subst h0
        go_wp2_with fail
        refine (among_dr [0, 9] 0 9 HD.out _ rfl _ _ rfl (by omega) _).mono ?_
        rintro e w' ⟨x6, rfl, hx6, hd, hg⟩
        replace HD := Lib.hid hd
        replace HR := Lib.hid (HR.out.keptC (by omega) hg)
        clear hd hg
        go_wp2_with fail
        go_ret3
        exact ⟨_, _, _, _, rfl, by omega, by omega, HR.out, by have h := HL.out; first | omega | (simp; omega), HP.out, (HD.out.mono (by omega)).cur, HD.out.grown⟩
      have h0' : ((y : Int) == 0) = false := by rw [beq_eq_false_iff_ne]; omega
      by_cases h1 : y = 1
      · subst h1
        go_wp2_with fail
        refine (among_dr [0, 1 + x1 + 1] 0 20 HD.out _ rfl _ _ rfl (by omega) _ (by simp) (by simp) (by intro x hx; simp at hx; omega)).mono ?_
        rintro e w' ⟨x6, rfl, hx6, hd, hg⟩
        replace HD := Lib.hid hd
        replace HR := Lib.hid (HR.out.keptC (by omega) hg)
        clear hd hg
        go_wp2_with fail
        go_ret3
        exact ⟨_, _, _, _, rfl, by omega, by omega, HR.out, by have h := HL.out; first | omega | (simp; omega), HP.out, (HD.out.mono (by omega)).cur, HD.out.grown⟩
      have h1' : ((y : Int) == 1) = false := by rw [beq_eq_false_iff_ne]; omega
      by_cases h2 : y = 2
      · subst h2
        go_wp2_with fail
        refine (among_dr [0, 999, 1000] 0 1000 HD.out _ rfl _ _ rfl (by omega) _).mono ?_
        rintro e w' ⟨x6, rfl, hx6, hd, hg⟩
        replace HD := Lib.hid hd
        replace HR := Lib.hid (HR.out.keptC (by omega) hg)
        clear hd hg
        go_wp2_with fail
        refine (among_dr [0, 1, 1 + x1 + 1] 0 20 HD.out _ rfl _ _ rfl (by omega) _ (by simp) (by simp) (by intro x hx; simp at hx; omega)).mono ?_
        rintro e w' ⟨x7, rfl, hx7, hd, hg⟩
        replace HD := Lib.hid hd
        replace HR := Lib.hid (HR.out.keptC (by omega) hg)
        clear hd hg
        have HB := Lib.hid (show DrawnS ⟨x6, x7, 5⟩ from ⟨by simp only; omega, by simp only; omega, by simp only; omega⟩)
        have hsw : w.heap.size ≤ w'.heap.size := HD.out.size
        have HRA := Lib.hid (HR.out.alloc (.cells #[.int .i64 x6, .int .i64 x7, .int .i64 5] 33))
        have HDA := Lib.hid (HD.out.alloc (.cells #[.int .i64 x6, .int .i64 x7, .int .i64 5] 33))
        have HSR := Lib.hid (show Src (w'.alloc (.cells #[.int .i64 x6, .int .i64 x7, .int .i64 5] 33)) 3 (some ⟨w'.heap.size, 0, none⟩) 1 [[.int .i64 x6, .int .i64 x7, .int .i64 5]] from Src.lit w' 33 [.int .i64 x6, .int .i64 x7, .int .i64 5] w'.heap.size rfl rfl (by simp [Value.oneCell']))
        have hsw2 : w.heap.size ≤ (w'.alloc (.cells #[.int .i64 x6, .int .i64 x7, .int .i64 5] 33)).heap.size := by simp; omega
        go_wp2_with (at_builtin; refine tyScore.append rfl _ _ rfl w.heap.size _ _ rfl HRA.out _ 1 1 [[.int .i64 x6, .int .i64 x7, .int .i64 5]] rfl HSR.out HLEN.out hsw2 ?_; intro o7 w7 hrow7 hg7 hat7)
        replace HD := Lib.hid (HDA.out.own hlt hg7 (fun g hg => (HRA.out.lt g hg).1))
        replace HR := Lib.hid (show Row w.heap.size 33 3 w7 o7 ((ps ++ [(⟨x6, x7, 5⟩ : Score)]).map Score.lst) from by simpa [Score.lst] using hrow7)
        clear HRA HDA HSR hrow7 hg7 hat7 hsw hsw2
        replace HP := Lib.hid (drawnS_snoc HP.out HB.out)
        go_wp2_with fail
        go_ret3
        exact ⟨_, _, _, _, rfl, by omega, by omega, HR.out, by have h := HL.out; first | omega | (simp; omega), HP.out, (HD.out.mono (by omega)).cur, HD.out.grown⟩
      have h2' : ((y : Int) == 2) = false := by rw [beq_eq_false_iff_ne]; omega
      by_cases h3 : y = 3
      · subst h3
        go_wp2_with fail
        refine (among_dr [-1, 1001] (-1) 1001 HD.out _ rfl _ _ rfl (by omega) _).mono ?_
        rintro e w' ⟨x6, rfl, hx6, hd, hg⟩
        replace HD := Lib.hid hd
        replace HR := Lib.hid (HR.out.keptC (by omega) hg)
        clear hd hg
        have HB := Lib.hid (show DrawnS ⟨999, 1, x6⟩ from ⟨by simp only; omega, by simp only; omega, by simp only; omega⟩)
        have hsw : w.heap.size ≤ w'.heap.size := HD.out.size
        have HRA := Lib.hid (HR.out.alloc (.cells #[.int .i64 999, .int .i64 1, .int .i64 x6] 33))
        have HDA := Lib.hid (HD.out.alloc (.cells #[.int .i64 999, .int .i64 1, .int .i64 x6] 33))
        have HSR := Lib.hid (show Src (w'.alloc (.cells #[.int .i64 999, .int .i64 1, .int .i64 x6] 33)) 3 (some ⟨w'.heap.size, 0, none⟩) 1 [[.int .i64 999, .int .i64 1, .int .i64 x6]] from Src.lit w' 33 [.int .i64 999, .int .i64 1, .int .i64 x6] w'.heap.size rfl rfl (by simp [Value.oneCell']))
        have hsw2 : w.heap.size ≤ (w'.alloc (.cells #[.int .i64 999, .int .i64 1, .int .i64 x6] 33)).heap.size := by simp; omega
        go_wp2_with (at_builtin; refine tyScore.append rfl _ _ rfl w.heap.size _ _ rfl HRA.out _ 1 1 [[.int .i64 999, .int .i64 1, .int .i64 x6]] rfl HSR.out HLEN.out hsw2 ?_; intro o7 w7 hrow7 hg7 hat7)
        replace HD := Lib.hid (HDA.out.own hlt hg7 (fun g hg => (HRA.out.lt g hg).1))
        replace HR := Lib.hid (show Row w.heap.size 33 3 w7 o7 ((ps ++ [(⟨999, 1, x6⟩ : Score)]).map Score.lst) from by simpa [Score.lst] using hrow7)
        clear HRA HDA HSR hrow7 hg7 hat7 hsw hsw2
        replace HP := Lib.hid (drawnS_snoc HP.out HB.out)
        go_wp2_with fail
        go_ret3
        exact ⟨_, _, _, _, rfl, by omega, by omega, HR.out, by have h := HL.out; first | omega | (simp; omega), HP.out, (HD.out.mono (by omega)).cur, HD.out.grown⟩
      have h3' : ((y : Int) == 3) = false := by rw [beq_eq_false_iff_ne]; omega
      by_cases h4 : y = 4
      · subst h4
        obtain ⟨A, d, rfl, hd1, hd2⟩ := HR.out.parts
        simp only [List.length_map] at HR hd1 hd2 ⊢
        by_cases hp0 : 0 < ps.length
        · obtain ⟨g2, cap, he, hbg, hgl, hcap⟩ := HR.out.form (by simpa using hp0)
          simp only [Value.slice.injEq, List.length_map] at he hcap
          obtain ⟨rfl, _, rfl⟩ := he
          have hrg := HR.out.range (k := 0) (by simpa using hp0)
          have HB := Lib.hid (HP.out _ (List.getElem_mem hp0))
          simp only [List.getElem_map] at hrg
          generalize ps[0] = p0 at *
          obtain ⟨b0, b1, b2⟩ := p0
          have hpp : (0 : Int) < (ps.length : Int) := by omega
          have hsw : w.heap.size ≤ w'.heap.size := HD.out.size
          have HRA := Lib.hid (HR.out.alloc (.cells #[.int .i64 b0, .int .i64 b1, .int .i64 b2] 33))
          have HDA := Lib.hid (HD.out.alloc (.cells #[.int .i64 b0, .int .i64 b1, .int .i64 b2] 33))
          have HSR := Lib.hid (show Src (w'.alloc (.cells #[.int .i64 b0, .int .i64 b1, .int .i64 b2] 33)) 3 (some ⟨w'.heap.size, 0, none⟩) 1 [[.int .i64 b0, .int .i64 b1, .int .i64 b2]] from Src.lit w' 33 [.int .i64 b0, .int .i64 b1, .int .i64 b2] w'.heap.size rfl rfl (by simp [Value.oneCell']))
          have hsw2 : w.heap.size ≤ (w'.alloc (.cells #[.int .i64 b0, .int .i64 b1, .int .i64 b2] 33)).heap.size := by simp; omega
          simp only [Nat.zero_mul] at hrg
          go_wp2_with (first
            | ((with_reducible refine at_load_ 33 ?_); refine Score.loadImpl rfl _ rfl g2 0 rfl ⟨b0, b1, b2⟩ hrg ?_)
            | (at_builtin; refine tyScore.append rfl _ _ rfl w.heap.size _ _ rfl HRA.out _ 1 1 [[.int .i64 b0, .int .i64 b1, .int .i64 b2]] rfl HSR.out HLEN.out hsw2 ?_; intro o7 w7 hrow7 hg7 hat7))
          replace HD := Lib.hid (HDA.out.own hlt hg7 (fun g hg => (HRA.out.lt g hg).1))
          replace HR := Lib.hid (show Row w.heap.size 33 3 w7 o7 ((ps ++ [(⟨b0, b1, b2⟩ : Score)]).map Score.lst) from by simpa [Score.lst] using hrow7)
          clear HRA HDA HSR hrow7 hg7 hat7 hsw hsw2
          replace HP := Lib.hid (drawnS_snoc HP.out HB.out)
          go_wp2_with fail
          go_ret3
          exact ⟨_, _, _, _, rfl, by omega, by omega, HR.out, by have h := HL.out; first | omega | (simp; omega), HP.out, (HD.out.mono (by omega)).cur, HD.out.grown⟩
        · have hpp : ¬ (0 : Int) < (ps.length : Int) := by omega
          go_wp2_with fail
          go_ret3
          exact ⟨_, _, _, rfl, by omega, by omega, _, HR.out, by have h := HL.out; omega, HP.out, (HD.out.mono (by omega)).cur, HD.out.grown⟩
      have h4' : ((y : Int) == 4) = false := by rw [beq_eq_false_iff_ne]; omega
      by_cases h5 : y = 5
      · subst h5
        clear h0 h0' h1 h1' h2 h2' h3 h3' h4 h4' HLEN
        go_wp2_with fail
        have hsw : w.heap.size ≤ w'.heap.size := HD.out.size
        have HR := Lib.hid (show Row w.heap.size 33 3 (w'.alloc (.cells #[] 33)) (.slice (some ⟨w'.heap.size, 0, none⟩) 0 0) (([] : List Score).map Score.lst) from Row.lit_nil w' 33 3 hsw)
        have HD := Lib.hid (HD.out.alloc (.cells #[] 33))
        clear hsw
        go_loopw [7, 11] (fun ov jv wr => ∃ (j : Nat) (qs : List Score), j ≤ 41 ∧ jv = .int .i64 j ∧ Hid (qs.length = j) ∧ Hid (∀ p ∈ qs, DrawnS p) ∧ Hid (Row w.heap.size 33 3 wr ov (qs.map Score.lst)) ∧ Hid (Dr c w wr (n + 200 + 2 * j)))
          (fun _ jv _ => 60 - (intOf jv).toNat)
        case atStart => exact ⟨0, [], by omega, rfl, rfl, fun p hp => absurd hp (by simp), HR.out, HD.out.mono (by omega)⟩
        case round =>
          clear HL HP HR HD
          obtain ⟨j, qs, hj, rfl, HL, HP, HR, HD⟩ := hrel
          have HLEN := Lib.hid (show (qs.map Score.lst).length + 1 ≤ 2147483648 by have := HL.out; simp; omega)
          go_wp2_with fail
          refine (pick_dr 2 HD.out (by omega) (by omega) (by omega)).mono ?_
          rintro e w' ⟨y, hy, rfl, hd, hg⟩
          replace HD := Lib.hid hd
          replace HR := Lib.hid (HR.out.keptC (by omega) hg)
          clear hd hg
          by_cases hlt2 : (j : Int) < 40 + (y : Int)
          · have HB := Lib.hid (show DrawnS ⟨(j : Int) + 1, 1, j⟩ from ⟨by simp only; omega, by simp only; omega, by simp only; omega⟩)
            have HJ := Lib.hid (show j + 1 ≤ 41 by omega)
            have hsw : w.heap.size ≤ w'.heap.size := HD.out.size
            have HRA := Lib.hid (HR.out.alloc (.cells #[.int .i64 ((j : Int) + 1), .int .i64 1, .int .i64 j] 33))
            have HDA := Lib.hid (HD.out.alloc (.cells #[.int .i64 ((j : Int) + 1), .int .i64 1, .int .i64 j] 33))
            have HSR := Lib.hid (show Src (w'.alloc (.cells #[.int .i64 ((j : Int) + 1), .int .i64 1, .int .i64 j] 33)) 3 (some ⟨w'.heap.size, 0, none⟩) 1 [[.int .i64 ((j : Int) + 1), .int .i64 1, .int .i64 j]] from Src.lit w' 33 [.int .i64 ((j : Int) + 1), .int .i64 1, .int .i64 j] w'.heap.size rfl rfl (by simp [Value.oneCell']))
            have hsw2 : w.heap.size ≤ (w'.alloc (.cells #[.int .i64 ((j : Int) + 1), .int .i64 1, .int .i64 j] 33)).heap.size := by simp; omega
            go_wp2_with (at_builtin; refine tyScore.append rfl _ _ rfl w.heap.size _ _ rfl HRA.out _ 1 1 [[.int .i64 ((j : Int) + 1), .int .i64 1, .int .i64 j]] rfl HSR.out HLEN.out hsw2 ?_; intro o7 w7 hrow7 hg7 hat7)
            replace HD := Lib.hid (HDA.out.own hlt hg7 (fun g hg => (HRA.out.lt g hg).1))
            replace HR := Lib.hid (show Row w.heap.size 33 3 w7 o7 ((qs ++ [(⟨(j : Int) + 1, 1, j⟩ : Score)]).map Score.lst) from by simpa [Score.lst] using hrow7)
            clear HRA HDA HSR hrow7 hg7 hat7 hsw hsw2
            go_wp2_with fail
            go_roundw
            case rel => exact ⟨j + 1, _, HJ.out, by go_num, by show _ = _; have := HL.out; simp; omega, drawnS_snoc HP.out HB.out, HR.out, HD.out.mono (by omega)⟩
            case measure => simp [intOf]; omega
          · skip
            go_wp2_with fail
            go_ret3
            exact ⟨_, _, _, _, rfl, by omega, by omega, HR.out, by have h := HL.out; first | omega | (simp; omega), HP.out, (HD.out.mono (by omega)).cur, HD.out.grown⟩
      have h5' : ((y : Int) == 5) = false := by rw [beq_eq_false_iff_ne]; omega
      go_wp2_with fail
      go_ret3
      exact ⟨_, _, _, _, rfl, by omega, by omega, HR.out, by have h := HL.out; first | omega | (simp; omega), HP.out, (HD.out.mono (by omega)).cur, HD.out.grown⟩
theorem score_at {base : Nat} {w : World} {A : Option Addr} {n d : Nat} {ps : List Score} (h : Row base 33 3 w (.slice A n d) (ps.map Score.lst)) {k : Nat} (hk : k < ps.length) :
    ∃ g, A = some ⟨g, 0, none⟩ ∧ base ≤ g ∧ w.cell? ⟨g, k * 3, none⟩ = some (.int .i64 ps[k].runner) := by
  obtain ⟨g2, cap, he, hbg, hgl, hcap⟩ := h.form (by simp; omega)
  simp only [Value.slice.injEq, List.length_map] at he hcap
  obtain ⟨rfl, rfl, rfl⟩ := he
  have hrg := h.range (k := k) (by simpa using hk)
  simp only [List.getElem_map] at hrg
  exact ⟨g2, rfl, hbg, (Score.cells hrg).1⟩
set_option maxRecDepth 100000 in
set_option maxHeartbeats 8000000 in
theorem runner20_any (c n : Nat) (ps : List Score) (v : Value) (w0 w : World) (h : Dr c w0 w n) (hn : n ≤ 10000) (hr : Row w0.heap.size 33 3 w v (ps.map Score.lst)) (hc : c < w0.heap.size) (hl : ps.length ≤ 48) (hp : ∀ p ∈ ps, DrawnS p) :
    Calls Try.prog 80 #[.pointer (some ⟨c, 0, none⟩), v] w fun e w' => ∃ x : Int, e = .returned (.int .i64 x) ∧ (-200000 ≤ x ∧ x ≤ 200000) ∧ Row w0.heap.size 33 3 w' v (ps.map Score.lst) ∧ Dr c w0 w' (n + 10) ∧ w.grownBy w' (some c) := by
  have hsz := h.size
  have HD := Lib.hid (Dr.start h.cur)
  have HW := Lib.hid h
  have HR := Lib.hid hr
  have HP := Lib.hid hp
  obtain ⟨A, d, rfl, hd1, hd2⟩ := hr.parts
  simp only [List.length_map] at HR hd1 hd2 ⊢
  clear h hr hp
  by_cases h0 : ps.length = 0
  · have h0' : ((ps.length : Int) == 0) = true := by simpa using h0
    go_enter Try.func80, Try.ntmps80
    go_wp2_with fail
    refine (among_dr [0, 1, 500] 0 500 HD.out _ rfl _ _ rfl (by omega) _).mono ?_
    rintro e w' ⟨x6, rfl, hx6, hd, hg⟩
    replace HD := Lib.hid hd
    replace HR := Lib.hid (HR.out.keptC (by omega) hg)
    clear hd hg
    go_wp2_with fail
    go_ret
    exact ⟨_, rfl, by omega, HR.out, HW.out.step (HD.out.mono (by omega)).cur HD.out.grown, HD.out.grown⟩
  · have h0' : ((ps.length : Int) == 0) = false := by rw [beq_eq_false_iff_ne]; omega
    go_enter Try.func80, Try.ntmps80
    go_wp2_with fail
    refine (one_dr 8 HD.out (by omega) (by omega)).mono ?_
    rintro e w' ⟨q, rfl, hd, hg⟩
    replace HD := Lib.hid hd
    replace HR := Lib.hid (HR.out.keptC (by omega) hg)
    clear hd hg
    cases q with
    | true =>
      go_wp2_with fail
      refine (among_dr [0, 1, 500] 0 500 HD.out _ rfl _ _ rfl (by omega) _).mono ?_
      rintro e w' ⟨x6, rfl, hx6, hd, hg⟩
      replace HD := Lib.hid hd
      replace HR := Lib.hid (HR.out.keptC (by omega) hg)
      clear hd hg
      go_wp2_with fail
      go_ret
      exact ⟨_, rfl, by omega, HR.out, HW.out.step (HD.out.mono (by omega)).cur HD.out.grown, HD.out.grown⟩
    | false =>
      go_wp2_with fail
      refine (pick_dr ps.length HD.out (by omega) (by omega) (by omega)).mono ?_
      rintro e w' ⟨y, hy, rfl, hd, hg⟩
      replace HD := Lib.hid hd
      replace HR := Lib.hid (HR.out.keptC (by omega) hg)
      clear hd hg
      have hyl : y < ps.length := by omega
      obtain ⟨g2, rfl, hbg, hcell⟩ := score_at HR.out hyl
      have HB := Lib.hid (HP.out _ (List.getElem_mem hyl))
      generalize ps[y] = p0 at *
      obtain ⟨b0, b1, b2⟩ := p0
      simp only at hcell
      go_wp2_with fail
      go_ret
      exact ⟨_, rfl, HB.out.1, HR.out, HW.out.step (HD.out.mono (by omega)).cur HD.out.grown, HD.out.grown⟩
/-- What the draws give: scores, and numbers. -/
def DrewS (w w' : World) (v : Value) (ps : List Score) : Prop := Sl (Flat Score.lst) 3 w' v ps ∧ ps.length ≤ 48 ∧ (∀ p ∈ ps, DrawnS p) ∧ Below w.heap.size w w'
abbrev NearI (x : Int) : Prop := -500000 ≤ x ∧ x ≤ 500000
set_option maxRecDepth 100000 in
set_option maxHeartbeats 4000000 in
theorem draw_AreScores (v0 : Value) (m : Nat) (w : World) (h : CodeS w v0 m) :
    Calls Try.prog 85 #[v0] w fun e w' => ∃ (r b : Int) (v : Value) (ps : List Score), e = .returned (.tuple #[.int .i64 r, .int .i64 b, v]) ∧ NearI r ∧ NearI b ∧ DrewS w w' v ps := by
  obtain ⟨A, cap, rfl⟩ : ∃ A cap, v0 = .slice A m cap := by obtain ⟨A, cap, e, _⟩ := h; exact ⟨A, cap, e⟩
  obtain ⟨W0, hW0⟩ : ∃ W0, w.alloc (.cells #[.slice A m cap, .int .i64 0, .int .u64 0] 81) = W0 := ⟨_, rfl⟩
  have hcur : Cur w.heap.size W0 0 := by rw [← hW0]; exact Cur.new h w.heap.size rfl
  have HD := Lib.hid (Dr.start hcur)
  have hc1 : w.heap.size < W0.heap.size := by rw [← hW0]; simp
  have HBL := Lib.hid (show ∀ W : World, W0.grownBy W (some w.heap.size) → Below w.heap.size w W from fun W hg => by rw [← hW0] at hg; exact below_cur hg)
  have HW := Lib.hid (scores20_any w.heap.size 0 _ hcur (by omega))
  have HW0 := Lib.hid hW0
  clear h hcur hW0
  go_enter Try.func85, Try.ntmps85
  go_wp2_with fail
  rw [HW0.out]
  refine HW.out.mono ?_
  rintro e w' ⟨r, b, v, ps, rfl, hr1, hb1, hr, hl, hp, hc, hg⟩
  replace HD := Lib.hid (HD.out.step hc hg)
  have HR := Lib.hid hr
  have HP := Lib.hid hp
  clear HW hr hp hc hg
  have HFIN := Lib.hid (show DrewS w w' v ps from ⟨Sl.of_flat HR.out, hl, HP.out, HBL.out _ HD.out.grown⟩)
  clear HR HD HP HBL
  go_wp2_with fail
  go_ret3
  exact ⟨_, _, _, _, rfl, by omega, by omega, HFIN.out⟩
set_option maxRecDepth 100000 in
set_option maxHeartbeats 4000000 in
theorem draw_Standings (v0 : Value) (m : Nat) (w : World) (h : CodeS w v0 m) :
    Calls Try.prog 48 #[v0] w fun e w' => ∃ (r b : Int) (v : Value) (ps : List Score), e = .returned (.tuple #[.int .i64 r, .int .i64 b, v]) ∧ NearI r ∧ NearI b ∧ DrewS w w' v ps := by
  have HA := Lib.hid (draw_AreScores v0 m w h)
  clear h
  go_enter Try.func48, Try.ntmps48
  go_wp2_with fail
  refine HA.out.mono ?_
  rintro e w' ⟨r, b, v, ps, rfl, hr, hb, hd⟩
  have HD := Lib.hid (And.intro hr (And.intro hb hd))
  clear hr hb hd
  go_wp2_with fail
  go_ret3
  exact ⟨_, _, _, _, rfl, HD.out.1, HD.out.2.1, HD.out.2.2⟩
set_option maxRecDepth 100000 in
set_option maxHeartbeats 4000000 in
theorem draw_TotalOf (v0 : Value) (m : Nat) (w : World) (h : CodeS w v0 m) :
    Calls Try.prog 83 #[v0] w fun e w' => ∃ (r b : Int) (v : Value) (x : Int) (ps : List Score), e = .returned (.tuple #[.int .i64 r, .int .i64 b, v, .int .i64 x]) ∧ NearI r ∧ NearI b ∧ NearI x ∧ DrewS w w' v ps := by
  obtain ⟨A, cap, rfl⟩ : ∃ A cap, v0 = .slice A m cap := by obtain ⟨A, cap, e, _⟩ := h; exact ⟨A, cap, e⟩
  obtain ⟨W0, hW0⟩ : ∃ W0, w.alloc (.cells #[.slice A m cap, .int .i64 0, .int .u64 0] 81) = W0 := ⟨_, rfl⟩
  have hcur : Cur w.heap.size W0 0 := by rw [← hW0]; exact Cur.new h w.heap.size rfl
  have HD := Lib.hid (Dr.start hcur)
  have hc1 : w.heap.size < W0.heap.size := by rw [← hW0]; simp
  have HBL := Lib.hid (show ∀ W : World, W0.grownBy W (some w.heap.size) → Below w.heap.size w W from fun W hg => by rw [← hW0] at hg; exact below_cur hg)
  have HW := Lib.hid (scores20_any w.heap.size 0 _ hcur (by omega))
  have HW0 := Lib.hid hW0
  clear h hcur hW0
  go_enter Try.func83, Try.ntmps83
  go_wp2_with fail
  rw [HW0.out]
  refine HW.out.mono ?_
  rintro e w' ⟨r, b, v, ps, rfl, hr1, hb1, hr, hl, hp, hc, hg⟩
  replace HD := Lib.hid (HD.out.step hc hg)
  have HR := Lib.hid hr
  have HP := Lib.hid hp
  clear HW hr hp hc hg
  go_wp2_with fail
  refine (runner20_any w.heap.size _ ps v W0 _ HD.out (by omega) HR.out hc1 hl HP.out).mono ?_
  rintro e w' ⟨x, rfl, hx, hr, hd, hg⟩
  replace HD := Lib.hid hd
  replace HR := Lib.hid hr
  clear hd hr hg
  have HFIN := Lib.hid (show DrewS w w' v ps from ⟨Sl.of_flat HR.out, hl, HP.out, HBL.out _ HD.out.grown⟩)
  clear HR HD HP HBL
  go_wp2_with fail
  refine bodyPost_ret (results_tmp4 rfl _ _ _) rfl ?_
  exact ⟨_, _, _, _, _, rfl, by omega, by omega, by omega, HFIN.out⟩
set_option maxRecDepth 100000 in
set_option maxHeartbeats 4000000 in
theorem draw_CountingRaces (v0 : Value) (m : Nat) (w : World) (h : CodeS w v0 m) :
    Calls Try.prog 49 #[v0] w fun e w' => ∃ (r b : Int) (v : Value) (x : Int) (ps : List Score), e = .returned (.tuple #[.int .i64 r, .int .i64 b, v, .int .i64 x]) ∧ NearI r ∧ NearI b ∧ NearI x ∧ DrewS w w' v ps := by
  have HA := Lib.hid (draw_TotalOf v0 m w h)
  clear h
  go_enter Try.func49, Try.ntmps49
  go_wp2_with fail
  refine HA.out.mono ?_
  rintro e w' ⟨r, b, v, x, ps, rfl, hr, hb, hx, hd⟩
  have HD := Lib.hid (And.intro hr (And.intro hb (And.intro hx hd)))
  clear hr hb hx hd
  go_wp2_with fail
  refine bodyPost_ret (results_tmp4 rfl _ _ _) rfl ?_
  exact ⟨_, _, _, _, _, rfl, HD.out.1, HD.out.2.1, HD.out.2.2.1, HD.out.2.2.2⟩
set_option maxRecDepth 100000 in
set_option maxHeartbeats 4000000 in
theorem draw_SeriesRank (v0 : Value) (m : Nat) (w : World) (h : CodeS w v0 m) :
    Calls Try.prog 47 #[v0] w fun e w' => ∃ (r b : Int) (v : Value) (x : Int) (ps : List Score), e = .returned (.tuple #[.int .i64 r, .int .i64 b, v, .int .i64 x]) ∧ NearI r ∧ NearI b ∧ NearI x ∧ DrewS w w' v ps := by
  have HA := Lib.hid (draw_TotalOf v0 m w h)
  clear h
  go_enter Try.func47, Try.ntmps47
  go_wp2_with fail
  refine HA.out.mono ?_
  rintro e w' ⟨r, b, v, x, ps, rfl, hr, hb, hx, hd⟩
  have HD := Lib.hid (And.intro hr (And.intro hb (And.intro hx hd)))
  clear hr hb hx hd
  go_wp2_with fail
  refine bodyPost_ret (results_tmp4 rfl _ _ _) rfl ?_
  exact ⟨_, _, _, _, _, rfl, HD.out.1, HD.out.2.1, HD.out.2.2.1, HD.out.2.2.2⟩
set_option maxRecDepth 100000 in
set_option maxHeartbeats 4000000 in
theorem draw_RacesWon (v0 : Value) (m : Nat) (w : World) (h : CodeS w v0 m) :
    Calls Try.prog 43 #[v0] w fun e w' => ∃ (r b : Int) (v : Value) (x : Int) (ps : List Score), e = .returned (.tuple #[.int .i64 r, .int .i64 b, v, .int .i64 x]) ∧ NearI r ∧ NearI b ∧ NearI x ∧ DrewS w w' v ps := by
  have HA := Lib.hid (draw_TotalOf v0 m w h)
  clear h
  go_enter Try.func43, Try.ntmps43
  go_wp2_with fail
  refine HA.out.mono ?_
  rintro e w' ⟨r, b, v, x, ps, rfl, hr, hb, hx, hd⟩
  have HD := Lib.hid (And.intro hr (And.intro hb (And.intro hx hd)))
  clear hr hb hx hd
  go_wp2_with fail
  refine bodyPost_ret (results_tmp4 rfl _ _ _) rfl ?_
  exact ⟨_, _, _, _, _, rfl, HD.out.1, HD.out.2.1, HD.out.2.2.1, HD.out.2.2.2⟩
end Go.Proofs.Ythhlfkeikcmnlaa
