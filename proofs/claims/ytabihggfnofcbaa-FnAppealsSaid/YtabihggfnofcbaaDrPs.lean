/- The draws of protests, and of one's number. Condition: the cursor has not come too far. -/
import Derived.Test.YtabihggfnofcbaaDrPr
namespace Go.Proofs.Ytabihggfnofcbaa
open Go Go.RowKit

theorem protest_dr {c n : Nat} {w0 w : World} (h : Dr c w0 w n) (id made : Int) (hn : n ≤ 100000) (hid : -100000 ≤ id ∧ id ≤ 100000) (hmade : -100000 ≤ made ∧ made ≤ 100000) :
    Calls Try.prog 92 #[.pointer (some ⟨c, 0, none⟩), .int .i64 id, .int .i64 made] w fun e w' => ∃ b0 b1 b2 b3 b4 b5 : Int, e = .returned (.agg #[.int .i64 b0, .int .i64 b1, .int .i64 b2, .int .i64 b3, .int .i64 b4, .int .i64 b5]) ∧ DrawnPr ⟨b0, b1, b2, b3, b4, b5⟩ ∧ Dr c w0 w' (n + 40) ∧ w.grownBy w' (some c) := by
  refine (protest_any c n id made w h.cur hn hid hmade).mono ?_
  rintro e w' ⟨p, rfl, hp, hc, hg⟩
  obtain ⟨b0, b1, b2, b3, b4, b5⟩ := p
  exact ⟨b0, b1, b2, b3, b4, b5, rfl, hp, h.step hc hg, hg⟩
theorem l1Least_any (a b : Int) (w : World) : Calls Try.prog 97 #[.int .i64 a, .int .i64 b] w fun e w' => ∃ x : Int, e = .returned (.int .i64 x) ∧ (x = a ∨ x = b) ∧ x ≤ a ∧ x ≤ b ∧ w = w' := by
  by_cases h : a < b
  · go_enter Try.func97, Try.ntmps97
    go_wp2
    go_ret
    exact ⟨a, rfl, .inl rfl, by omega, by omega, rfl⟩
  · go_enter Try.func97, Try.ntmps97
    go_wp2
    go_ret
    exact ⟨b, rfl, .inr rfl, by omega, by omega, rfl⟩
/-- One protest more. -/
theorem drawn_snoc {ps : List Prot} {p : Prot} (h : ∀ q ∈ ps, DrawnPr q) (hp : DrawnPr p) : ∀ q ∈ ps ++ [p], DrawnPr q := by
  intro q hq
  rcases List.mem_append.1 hq with hq | hq
  · exact h q hq
  · rw [List.mem_singleton.1 hq]; exact hp
set_option maxRecDepth 100000 in
set_option maxHeartbeats 8000000 in
theorem protests_any (c n : Nat) (w : World) (h : Cur c w n) (hn : n ≤ 10000) :
    Calls Try.prog 86 #[.pointer (some ⟨c, 0, none⟩)] w fun e w' => ∃ (v : Value) (ps : List Prot), e = .returned v ∧ Row w.heap.size 25 6 w' v (ps.map Prot.lst) ∧ ps.length ≤ 12 ∧ (∀ p ∈ ps, DrawnPr p) ∧ Cur c w' (n + 500) ∧ w.grownBy w' (some c) := by
  have hlt := h.lt
  have HD := Lib.hid ((Dr.start h).alloc (.cells #[] 25))
  have HR := Lib.hid (show Row w.heap.size 25 6 (w.alloc (.cells #[] 25)) (.slice (some ⟨w.heap.size, 0, none⟩) 0 0) (([] : List Prot).map Prot.lst) from Row.lit_nil w 25 6 (Nat.le_refl _))
  clear h
  go_enter Try.func86, Try.ntmps86
  go_upto_region 2 with fail
  generalize w.alloc (.cells #[] 25) = W0 at *
  go_wp2_with fail
  refine (among_dr [0, 100, 30000] 0 30000 HD.out _ rfl _ _ rfl (by omega) _).mono ?_
  rintro e w' ⟨x1, rfl, hx1, hd, hg⟩
  replace HD := Lib.hid hd
  replace HR := Lib.hid (HR.out.keptC (by omega) hg)
  clear hd hg
  go_wp2_with fail
  refine (pick_dr 7 HD.out (by omega) (by omega) (by omega)).mono ?_
  rintro e w' ⟨x2, hx2, rfl, hd, hg⟩
  replace HD := Lib.hid hd
  replace HR := Lib.hid (HR.out.keptC (by omega) hg)
  clear hd hg
  go_wp2_with fail
  go_loopw [3, 4, 5, 6] (fun ov iv mv nv wr => ∃ (k : Nat) (id made : Int) (ps : List Prot), k ≤ 6 ∧ nv = .int .i64 k ∧ iv = .int .i64 id ∧ mv = .int .i64 made ∧ 0 ≤ id ∧ id + 2 * k ≤ 12 ∧ 0 ≤ made ∧ made ≤ 36000 ∧ Hid (ps.length + k ≤ 6) ∧ Hid (∀ p ∈ ps, DrawnPr p) ∧ Hid (Row w.heap.size 25 6 wr ov (ps.map Prot.lst)) ∧ Hid (Dr c w wr (n + 4 + 50 * (6 - k))))
    (fun _ _ _ nv _ => (intOf nv).toNat)
  case atStart => exact ⟨x2, 0, x1, [], by omega, rfl, rfl, rfl, by omega, by omega, by omega, by omega, by show _ ≤ _; simp; omega, fun p hp => absurd hp (by simp), HR.out, HD.out.mono (by omega)⟩
  case round =>
    clear HR HD
    obtain ⟨k, id, made, ps, hk6, rfl, rfl, rfl, hi0, hi1, hm0, hm1, HL, HP, HR, HD⟩ := hrel
    have HLEN := Lib.hid (show (ps.map Prot.lst).length + 1 ≤ 2147483648 by have := HL.out; simp; omega)
    by_cases hk : 0 < k
    · have hkk : (0 : Int) < (k : Int) := by omega
      go_wp2_with fail
      refine (pick_dr 2 HD.out (by omega) (by omega) (by omega)).mono ?_
      rintro e w' ⟨x3, hx3, rfl, hd, hg⟩
      replace HD := Lib.hid hd
      replace HR := Lib.hid (HR.out.keptC (by omega) hg)
      clear hd hg
      go_wp2_with fail
      refine (protest_dr HD.out _ _ (by omega) (by omega) (by omega)).mono ?_
      rintro e w' ⟨b0, b1, b2, b3, b4, b5, rfl, hb, hd, hg⟩
      replace HD := Lib.hid hd
      replace HR := Lib.hid (HR.out.keptC (by omega) hg)
      clear hd hg
      have HB := Lib.hid hb
      clear hb
      have hsw : w.heap.size ≤ w'.heap.size := HD.out.size
      have HRA := Lib.hid (HR.out.alloc (.cells #[.int .i64 b0, .int .i64 b1, .int .i64 b2, .int .i64 b3, .int .i64 b4, .int .i64 b5] 25))
      have HDA := Lib.hid (HD.out.alloc (.cells #[.int .i64 b0, .int .i64 b1, .int .i64 b2, .int .i64 b3, .int .i64 b4, .int .i64 b5] 25))
      have HSR := Lib.hid (show Src (w'.alloc (.cells #[.int .i64 b0, .int .i64 b1, .int .i64 b2, .int .i64 b3, .int .i64 b4, .int .i64 b5] 25)) 6 (some ⟨w'.heap.size, 0, none⟩) 1 [[.int .i64 b0, .int .i64 b1, .int .i64 b2, .int .i64 b3, .int .i64 b4, .int .i64 b5]] from Src.lit w' 25 [.int .i64 b0, .int .i64 b1, .int .i64 b2, .int .i64 b3, .int .i64 b4, .int .i64 b5] w'.heap.size rfl rfl (by simp [Value.oneCell']))
      have hsw2 : w.heap.size ≤ (w'.alloc (.cells #[.int .i64 b0, .int .i64 b1, .int .i64 b2, .int .i64 b3, .int .i64 b4, .int .i64 b5] 25)).heap.size := by simp; omega
      go_wp2_with (at_builtin; refine tyProt.append rfl _ _ rfl w.heap.size _ _ rfl HRA.out _ 1 1 [[.int .i64 b0, .int .i64 b1, .int .i64 b2, .int .i64 b3, .int .i64 b4, .int .i64 b5]] rfl HSR.out HLEN.out hsw2 ?_; intro o7 w7 hrow7 hg7 hat7)
      replace HD := Lib.hid (HDA.out.own hlt hg7 (fun g hg => (HRA.out.lt g hg).1))
      replace HR := Lib.hid (show Row w.heap.size 25 6 w7 o7 ((ps ++ [(⟨b0, b1, b2, b3, b4, b5⟩ : Prot)]).map Prot.lst) from by simpa [Prot.lst] using hrow7)
      clear HRA HDA HSR hrow7 hg7 hat7 hsw hsw2
      go_wp2_with fail
      refine (among_dr [0, 10, 900, 2000] 0 2000 HD.out _ rfl _ _ rfl (by omega) _).mono ?_
      rintro e w' ⟨x5, rfl, hx5, hd, hg⟩
      replace HD := Lib.hid hd
      replace HR := Lib.hid (HR.out.keptC (by omega) hg)
      clear hd hg
      go_wp2_with fail
      refine (l1Least_any _ _ _).mono ?_
      rintro e w8 ⟨y, rfl, hy1, hy2, hy3, rfl⟩
      have HB2 := Lib.hid (show 0 ≤ y by rcases hy1 with rfl | rfl <;> omega)
      clear hy1 hy3
      go_wp2_with fail
      go_roundw
      case rel => exact ⟨k - 1, _, y, _, by omega, by congr 1; omega, rfl, rfl, by omega, by omega, HB2.out, hy2, by show _ ≤ _; have := HL.out; simp; omega, drawn_snoc HP.out HB.out, HR.out, HD.out.mono (by omega)⟩
      case measure => simp [intOf]; omega
    · obtain rfl : k = 0 := by omega
      go_wp2_with fail
      refine (pick_dr 30 HD.out (by omega) (by omega) (by omega)).mono ?_
      rintro e w' ⟨y, hy, rfl, hd, hg⟩
      replace HD := Lib.hid hd
      replace HR := Lib.hid (HR.out.keptC (by omega) hg)
      clear hd hg
      by_cases h0 : y = 0
      · subst h0
        go_wp2_with fail
        refine (protest_dr HD.out _ _ (by omega) (by omega) (by omega)).mono ?_
        rintro e w' ⟨b0, b1, b2, b3, b4, b5, rfl, hb, hd, hg⟩
        replace HD := Lib.hid hd
        replace HR := Lib.hid (HR.out.keptC (by omega) hg)
        clear hd hg
        have HB := Lib.hid hb
        clear hb
        have hsw : w.heap.size ≤ w'.heap.size := HD.out.size
        have HRA := Lib.hid (HR.out.alloc (.cells #[.int .i64 b0, .int .i64 b1, .int .i64 b2, .int .i64 b3, .int .i64 b4, .int .i64 b5] 25))
        have HDA := Lib.hid (HD.out.alloc (.cells #[.int .i64 b0, .int .i64 b1, .int .i64 b2, .int .i64 b3, .int .i64 b4, .int .i64 b5] 25))
        have HSR := Lib.hid (show Src (w'.alloc (.cells #[.int .i64 b0, .int .i64 b1, .int .i64 b2, .int .i64 b3, .int .i64 b4, .int .i64 b5] 25)) 6 (some ⟨w'.heap.size, 0, none⟩) 1 [[.int .i64 b0, .int .i64 b1, .int .i64 b2, .int .i64 b3, .int .i64 b4, .int .i64 b5]] from Src.lit w' 25 [.int .i64 b0, .int .i64 b1, .int .i64 b2, .int .i64 b3, .int .i64 b4, .int .i64 b5] w'.heap.size rfl rfl (by simp [Value.oneCell']))
        have hsw2 : w.heap.size ≤ (w'.alloc (.cells #[.int .i64 b0, .int .i64 b1, .int .i64 b2, .int .i64 b3, .int .i64 b4, .int .i64 b5] 25)).heap.size := by simp; omega
        go_wp2_with (at_builtin; refine tyProt.append rfl _ _ rfl w.heap.size _ _ rfl HRA.out _ 1 1 [[.int .i64 b0, .int .i64 b1, .int .i64 b2, .int .i64 b3, .int .i64 b4, .int .i64 b5]] rfl HSR.out HLEN.out hsw2 ?_; intro o7 w7 hrow7 hg7 hat7)
        replace HD := Lib.hid (HDA.out.own hlt hg7 (fun g hg => (HRA.out.lt g hg).1))
        replace HR := Lib.hid (show Row w.heap.size 25 6 w7 o7 ((ps ++ [(⟨b0, b1, b2, b3, b4, b5⟩ : Prot)]).map Prot.lst) from by simpa [Prot.lst] using hrow7)
        clear HRA HDA HSR hrow7 hg7 hat7 hsw hsw2
        replace HP := Lib.hid (drawn_snoc HP.out HB.out)
        go_wp2_with fail
        go_ret
        exact ⟨_, _, rfl, HR.out, by have h := HL.out; first | omega | (simp; omega), HP.out, (HD.out.mono (by omega)).cur, HD.out.grown⟩
      · by_cases h1 : y = 1
        · subst h1
          clear h0
          have HL6 := Lib.hid (show ps.length ≤ 6 by have := HL.out; omega)
          go_wp2_with fail
          go_loopw [3, 4] (fun ov iv wr => ∃ (j : Nat) (id : Int) (ps : List Prot), j ≤ 12 ∧ iv = .int .i64 id ∧ 0 ≤ id ∧ id ≤ 12 + j ∧ Hid (j ≤ ps.length ∧ ps.length ≤ 12) ∧ Hid (∀ p ∈ ps, DrawnPr p) ∧ Hid (Row w.heap.size 25 6 wr ov (ps.map Prot.lst)) ∧ Hid (Dr c w wr (n + 400 + 2 * j)))
            (fun _ iv _ => 40 - (intOf iv).toNat)
          case atStart => exact ⟨0, id, ps, by omega, rfl, hi0, by omega, ⟨Nat.zero_le _, by have := HL6.out; omega⟩, HP.out, HR.out, HD.out.mono (by omega)⟩
          case round =>
            clear HL HL6 HP HR HD hi0 hi1 HLEN
            obtain ⟨j, id, ps, hj, rfl, hi0, hi1, HL, HP, HR, HD⟩ := hrel
            obtain ⟨A, d, rfl, hd1, hd2⟩ := HR.out.parts
            simp only [List.length_map] at HR hd1 hd2 ⊢
            have HLEN := Lib.hid (show (ps.map Prot.lst).length + 1 ≤ 2147483648 by have := HL.out; simp; omega)
            go_wp2_with fail
            refine (pick_dr 2 HD.out (by omega) (by omega) (by omega)).mono ?_
            rintro e w' ⟨y, hy, rfl, hd, hg⟩
            replace HD := Lib.hid hd
            replace HR := Lib.hid (HR.out.keptC (by omega) hg)
            clear hd hg
            by_cases hlt2 : (ps.length : Int) < 10 + y
            · have HB := Lib.hid (show DrawnPr ⟨id + 1, 1, 2, 36000, 0, 0⟩ from ⟨by simp only; omega, by simp only; omega, by simp only; omega, by simp only; omega, by simp only; omega, by simp only; omega⟩)
              have HL2 := Lib.hid (show j + 1 ≤ (ps ++ [(⟨id + 1, 1, 2, 36000, 0, 0⟩ : Prot)]).length ∧ (ps ++ [(⟨id + 1, 1, 2, 36000, 0, 0⟩ : Prot)]).length ≤ 12 by have := HL.out; simp; omega)
              have HJ := Lib.hid (show j + 1 ≤ 12 by have := HL.out; omega)
              have hsw : w.heap.size ≤ w'.heap.size := HD.out.size
              have HRA := Lib.hid (HR.out.alloc (.cells #[.int .i64 (id + 1), .int .i64 1, .int .i64 2, .int .i64 36000, .int .i64 0, .int .i64 0] 25))
              have HDA := Lib.hid (HD.out.alloc (.cells #[.int .i64 (id + 1), .int .i64 1, .int .i64 2, .int .i64 36000, .int .i64 0, .int .i64 0] 25))
              have HSR := Lib.hid (show Src (w'.alloc (.cells #[.int .i64 (id + 1), .int .i64 1, .int .i64 2, .int .i64 36000, .int .i64 0, .int .i64 0] 25)) 6 (some ⟨w'.heap.size, 0, none⟩) 1 [[.int .i64 (id + 1), .int .i64 1, .int .i64 2, .int .i64 36000, .int .i64 0, .int .i64 0]] from Src.lit w' 25 [.int .i64 (id + 1), .int .i64 1, .int .i64 2, .int .i64 36000, .int .i64 0, .int .i64 0] w'.heap.size rfl rfl (by simp [Value.oneCell']))
              have hsw2 : w.heap.size ≤ (w'.alloc (.cells #[.int .i64 (id + 1), .int .i64 1, .int .i64 2, .int .i64 36000, .int .i64 0, .int .i64 0] 25)).heap.size := by simp; omega
              go_wp2_with (at_builtin; refine tyProt.append rfl _ _ rfl w.heap.size _ _ rfl HRA.out _ 1 1 [[.int .i64 (id + 1), .int .i64 1, .int .i64 2, .int .i64 36000, .int .i64 0, .int .i64 0]] rfl HSR.out HLEN.out hsw2 ?_; intro o7 w7 hrow7 hg7 hat7)
              replace HD := Lib.hid (HDA.out.own hlt hg7 (fun g hg => (HRA.out.lt g hg).1))
              replace HR := Lib.hid (show Row w.heap.size 25 6 w7 o7 ((ps ++ [(⟨id + 1, 1, 2, 36000, 0, 0⟩ : Prot)]).map Prot.lst) from by simpa [Prot.lst] using hrow7)
              clear HRA HDA HSR hrow7 hg7 hat7 hsw hsw2
              go_roundw
              case rel => exact ⟨j + 1, id + 1, _, HJ.out, rfl, by omega, by omega, HL2.out, drawn_snoc HP.out HB.out, HR.out, HD.out.mono (by omega)⟩
              case measure => simp [intOf]; omega
            · skip
              go_wp2_with fail
              go_ret
              exact ⟨_, _, rfl, HR.out, by have h := HL.out; first | omega | (simp; omega), HP.out, (HD.out.mono (by omega)).cur, HD.out.grown⟩
        · have h0' : ((y : Int) == 0) = false := by rw [beq_eq_false_iff_ne]; omega
          have h1' : ((y : Int) == 1) = false := by rw [beq_eq_false_iff_ne]; omega
          go_wp2_with fail
          go_ret
          exact ⟨_, _, rfl, HR.out, by have h := HL.out; first | omega | (simp; omega), HP.out, (HD.out.mono (by omega)).cur, HD.out.grown⟩
end Go.Proofs.Ytabihggfnofcbaa
