/- The draw of a heat. Condition: the cursor has not come too far. -/
import Derived.Test.YtabgmbmaakglkaaDrHa
namespace Go.Proofs.Ytabgmbmaakglkaa
open Go Go.RowKit

/-- How many runners lack at most. -/
def heatLeft (g : Nat) (wx : World) : Nat := match wx.cell? ⟨g, 0, none⟩ with | some (.slice _ m _) => 9 - m | _ => 0
theorem heatLeft_is {g : Nat} {wx : World} {A : Option Addr} {m d : Nat} (h : wx.cell? ⟨g, 0, none⟩ = some (.slice A m d)) : heatLeft g wx = 9 - m := by unfold heatLeft; rw [h]
set_option maxRecDepth 100000 in
set_option maxHeartbeats 16000000 in
theorem heat_any (c n : Nat) (fr : Int) (w : World) (h : Cur c w n) (hn : n ≤ 10000) (hfr : -100000 ≤ fr ∧ fr ≤ 100000) :
    Calls Try.prog 77 #[.pointer (some ⟨c, 0, none⟩), .int .i64 fr] w fun e w' => ∃ p : Ht, e = .returned (.agg #[.slice p.a p.n p.c, .slice p.b p.m p.d]) ∧ p.In w' ∧ (∀ q, (p.rv.ownBlock = some q ∨ p.tv.ownBlock = some q) → w.heap.size ≤ q ∧ q < w'.heap.size) ∧ (p.k.runners.length ≤ 8 ∧ p.k.times.length ≤ 8) ∧ Dr c w w' (n + 100) ∧ w.grownBy w' (some c) := by
  have hlt := h.lt
  obtain ⟨hf1, hf2⟩ := hfr
  have HI := Lib.hid (show InHt w.heap.size (w.heap.size + 1) (w.heap.size + 2) c w ((w.alloc (.cells #[.slice none 0 0, .slice none 0 0] 28)).alloc (.cells #[.slice none 0 0, .slice none 0 0] 28)) n none 0 0 none 0 0 [] [] from
    ⟨((Dr.start h).alloc _).alloc _, (LitAt.new w 28 zHeat w.heap.size rfl).alloc _, LitAt.new (w.alloc _) 28 zHeat (w.heap.size + 1) (by simp), Row.nil _ _ _ _, Row.nil _ _ _ _, Dis.nil _, by omega, by omega, hlt, rfl, hlt⟩)
  clear h
  go_enter Try.func77, Try.ntmps77
  go_wp2_with fail
  generalize (w.alloc (.cells #[.slice none 0 0, .slice none 0 0] 28)).alloc (.cells #[.slice none 0 0, .slice none 0 0] 28) = W at HI ⊢
  have hg0 : w.heap.size + 1 = w.heap.size + 1 := rfl
  obtain ⟨g, hge⟩ : ∃ g, g = w.heap.size + 1 := ⟨_, rfl⟩
  rw [← hge] at HI ⊢
  have HGE := Lib.hid hge
  clear hg0 hge
  go_loopw [6] (fun iv wr => ∃ (i : Nat) (A : Option Addr) (d : Nat) (B : Option Addr) (e : Nat) (rs ts : List Int), i ≤ 6 ∧ iv = .int .i64 i ∧ rs.length = i ∧ ts.length = i ∧ Hid (InHt w.heap.size g (w.heap.size + 2) c w wr (n + 6 * i) A rs.length d B ts.length e rs ts))
    (fun iv _ => 7 - (intOf iv).toNat)
  case atStart => exact ⟨0, none, 0, none, 0, [], [], by omega, rfl, rfl, rfl, HI.out⟩
  case round =>
    clear HI
    obtain ⟨i, A, d, B, e, rs, ts, hi6, rfl, hrl, htl, HI⟩ := hrel
    have HRL := Lib.hid hrl
    have HTL := Lib.hid htl
    have hrl6 : rs.length ≤ 6 := by omega
    have htl6 : ts.length ≤ 6 := by omega
    clear hrl htl
    go_wp2_with fail
    refine (pick_dr 5 HI.out.dr (by omega) (by omega) (by omega)).mono ?_
    rintro e0 w1 ⟨y, hy, rfl, hd, hg⟩
    replace HI := Lib.hid (HI.out.keptC hd hg)
    clear hd hg
    have hwy : IntKind.i64.wrap (2 + (y : Int)) = 2 + (y : Int) := by rw [IntKind.wrap_i64]; omega
    by_cases hiy : (i : Int) < 2 + (y : Int)
    · have hwf : IntKind.i64.wrap (fr + (i : Int)) = fr + (i : Int) := by rw [IntKind.wrap_i64]; omega
      have hi5 : i ≤ 5 := by omega
      have HIA := Lib.hid (HI.out.below (below_alloc (Below.refl _ _) (.cells #[.int .i64 (fr + (i : Int))] 3)))
      have HSR := Lib.hid (show Src (w1.alloc (.cells #[.int .i64 (fr + (i : Int))] 3)) 1 (some ⟨w1.heap.size, 0, none⟩) 1 [ints (fr + (i : Int))] from Src.lit w1 3 (ints (fr + (i : Int))) w1.heap.size rfl rfl (ints_one _))
      have HLL := Lib.hid (show (rs.map ints).length + 1 ≤ 2147483648 by simp; omega)
      have HSZ := Lib.hid (show w.heap.size + 2 ≤ (w1.alloc (.cells #[.int .i64 (fr + (i : Int))] 3)).heap.size from by have := HI.out.lit.lt; have := HI.out.apart; simp; omega)
      obtain ⟨a0, a1, f0, f1⟩ := HI.out.cells
      go_wp2_with (at_builtin; refine tyInt.append rfl _ _ rfl (w.heap.size + 2) _ _ rfl HIA.out.r1 _ 1 1 [ints (fr + (i : Int))] rfl HSR.out HLL.out HSZ.out ?_; intro o7 w7 hrow7 hg7 hat7; obtain ⟨A7, c7, rfl, -, -⟩ := hrow7.parts; simp only [List.length_append, List.length_map, List.length_singleton] at hrow7 hat7 ⊢; have HL7 := Lib.hid (HIA.out.lit.grown hg7 (fun e => by have h1 := (HIA.out.r1.lt _ e).1; have h2 := HIA.out.apart; omega)); have l71 := HL7.out.range 1 _ rfl; have l70 := HL7.out.range 0 _ rfl; have lf7 := HL7.out.frozen 0; simp only [Nat.zero_add] at l70 l71)
      replace HI := Lib.hid (HIA.out.push1 hrow7 hg7 hat7)
      clear a0 a1 f0 f1
      clear hrow7 hg7 hat7 l71 l70 lf7 HIA HSR HL7 HLL HSZ
      have HS7 : (w7.setCell ⟨g, 0, none⟩ (.slice A7 (rs.length + 1) c7)).heap.size = w7.heap.size := by simp
      generalize w7.setCell ⟨g, 0, none⟩ (.slice A7 (rs.length + 1) c7) = W7 at HI HS7 ⊢
      refine (among_dr [0, 700, 701, 705, 710, 720, 760, 800, 36000] 0 36000 HI.out.dr _ rfl _ _ rfl (by omega) _ (hgg := HS7)).mono ?_
      rintro e2 w2 ⟨tm, rfl, htm, hd, hg⟩
      replace HI := Lib.hid (HI.out.keptC hd hg)
      clear hd hg
      clear htm
      obtain ⟨a0, a1, f0, f1⟩ := HI.out.cells
      by_cases ht0 : 0 < tm
      · obtain ⟨q, hq⟩ : ∃ q, ts.any (fun y => tm == y) = q := ⟨_, rfl⟩
        have HC := Lib.hid (l1Has_any ts (.slice B ts.length e) tm w2 (Sl.of_flat HI.out.r2))
        rw [hq] at HC
        clear hq
        cases q with
        | false =>
          go_wp2_with fail
          refine HC.out.mono ?_
          rintro e3 w3 ⟨rfl, rfl⟩
          have HIA := Lib.hid (HI.out.below (below_alloc (Below.refl _ _) (.cells #[.int .i64 tm] 3)))
          have HSR := Lib.hid (show Src (w2.alloc (.cells #[.int .i64 tm] 3)) 1 (some ⟨w2.heap.size, 0, none⟩) 1 [ints tm] from Src.lit w2 3 (ints tm) w2.heap.size rfl rfl (ints_one _))
          have HLL := Lib.hid (show (ts.map ints).length + 1 ≤ 2147483648 by simp; omega)
          have HSZ := Lib.hid (show w.heap.size + 2 ≤ (w2.alloc (.cells #[.int .i64 tm] 3)).heap.size from by have := HI.out.lit.lt; have := HI.out.apart; simp; omega)
          go_wp2_with (at_builtin; refine tyInt.append rfl _ _ rfl (w.heap.size + 2) _ _ rfl HIA.out.r2 _ 1 1 [ints tm] rfl HSR.out HLL.out HSZ.out ?_; intro o7 w7 hrow7 hg7 hat7; obtain ⟨B8, c8, rfl, -, -⟩ := hrow7.parts; simp only [List.length_append, List.length_map, List.length_singleton] at hrow7 hat7 ⊢; have HL7 := Lib.hid (HIA.out.lit.grown hg7 (fun e => by have h1 := (HIA.out.r2.lt _ e).1; have h2 := HIA.out.apart; omega)); have l71 := HL7.out.range 1 _ rfl; have l70 := HL7.out.range 0 _ rfl; have lf7 := HL7.out.frozen 1; simp only [Nat.zero_add] at l70 l71)
          have HP7 := Lib.hid (HIA.out.push2 hrow7 hg7 hat7)
          clear hrow7 hg7 hat7 l71 l70 lf7 HIA HSR HL7
          go_roundw
          case rel => exact ⟨i + 1, A7, c7, B8, c8, rs ++ [fr + (i : Int)], ts ++ [tm], by omega, by go_num, by simp; exact HRL.out, by simp; exact HTL.out, Lib.hid (by have := HP7.out.mono (n' := n + 6 * (i + 1)) (by omega); simpa using this)⟩
          case measure => simp [intOf]; omega
        | true =>
          go_wp2_with fail
          refine HC.out.mono ?_
          rintro e3 w3 ⟨rfl, rfl⟩
          clear a0 a1 f0 f1
          go_wp2_with fail
          refine (one_dr 40 HI.out.dr (by omega) (by omega)).mono ?_
          rintro e4 w4 ⟨b4, rfl, hd, hg⟩
          replace HI := Lib.hid (HI.out.keptC hd hg)
          clear hd hg
          obtain ⟨a0, a1, f0, f1⟩ := HI.out.cells
          clear HC
          cases b4 with
          | true =>
            have HIA := Lib.hid (HI.out.below (below_alloc (Below.refl _ _) (.cells #[.int .i64 tm] 3)))
            have HSR := Lib.hid (show Src (w4.alloc (.cells #[.int .i64 tm] 3)) 1 (some ⟨w4.heap.size, 0, none⟩) 1 [ints tm] from Src.lit w4 3 (ints tm) w4.heap.size rfl rfl (ints_one _))
            have HLL := Lib.hid (show (ts.map ints).length + 1 ≤ 2147483648 by simp; omega)
            have HSZ := Lib.hid (show w.heap.size + 2 ≤ (w4.alloc (.cells #[.int .i64 tm] 3)).heap.size from by have := HI.out.lit.lt; have := HI.out.apart; simp; omega)
            go_wp2_with (at_builtin; refine tyInt.append rfl _ _ rfl (w.heap.size + 2) _ _ rfl HIA.out.r2 _ 1 1 [ints tm] rfl HSR.out HLL.out HSZ.out ?_; intro o7 w7 hrow7 hg7 hat7; obtain ⟨B8, c8, rfl, -, -⟩ := hrow7.parts; simp only [List.length_append, List.length_map, List.length_singleton] at hrow7 hat7 ⊢; have HL7 := Lib.hid (HIA.out.lit.grown hg7 (fun e => by have h1 := (HIA.out.r2.lt _ e).1; have h2 := HIA.out.apart; omega)); have l71 := HL7.out.range 1 _ rfl; have l70 := HL7.out.range 0 _ rfl; have lf7 := HL7.out.frozen 1; simp only [Nat.zero_add] at l70 l71)
            have HP7 := Lib.hid (HIA.out.push2 hrow7 hg7 hat7)
            clear hrow7 hg7 hat7 l71 l70 lf7 HIA HSR HL7
            go_roundw
            case rel => exact ⟨i + 1, A7, c7, B8, c8, rs ++ [fr + (i : Int)], ts ++ [tm], by omega, by go_num, by simp; exact HRL.out, by simp; exact HTL.out, Lib.hid (by have := HP7.out.mono (n' := n + 6 * (i + 1)) (by omega); simpa using this)⟩
            case measure => simp [intOf]; omega
          | false =>
            have hw9 : IntKind.i64.wrap (900 + (i : Int)) = 900 + (i : Int) := by rw [IntKind.wrap_i64]; omega
            have HIA := Lib.hid (HI.out.below (below_alloc (Below.refl _ _) (.cells #[.int .i64 (900 + (i : Int))] 3)))
            have HSR := Lib.hid (show Src (w4.alloc (.cells #[.int .i64 (900 + (i : Int))] 3)) 1 (some ⟨w4.heap.size, 0, none⟩) 1 [ints (900 + (i : Int))] from Src.lit w4 3 (ints (900 + (i : Int))) w4.heap.size rfl rfl (ints_one _))
            have HLL := Lib.hid (show (ts.map ints).length + 1 ≤ 2147483648 by simp; omega)
            have HSZ := Lib.hid (show w.heap.size + 2 ≤ (w4.alloc (.cells #[.int .i64 (900 + (i : Int))] 3)).heap.size from by have := HI.out.lit.lt; have := HI.out.apart; simp; omega)
            go_wp2_with (at_builtin; refine tyInt.append rfl _ _ rfl (w.heap.size + 2) _ _ rfl HIA.out.r2 _ 1 1 [ints (900 + (i : Int))] rfl HSR.out HLL.out HSZ.out ?_; intro o7 w7 hrow7 hg7 hat7; obtain ⟨B8, c8, rfl, -, -⟩ := hrow7.parts; simp only [List.length_append, List.length_map, List.length_singleton] at hrow7 hat7 ⊢; have HL7 := Lib.hid (HIA.out.lit.grown hg7 (fun e => by have h1 := (HIA.out.r2.lt _ e).1; have h2 := HIA.out.apart; omega)); have l71 := HL7.out.range 1 _ rfl; have l70 := HL7.out.range 0 _ rfl; have lf7 := HL7.out.frozen 1; simp only [Nat.zero_add] at l70 l71)
            have HP7 := Lib.hid (HIA.out.push2 hrow7 hg7 hat7)
            clear hrow7 hg7 hat7 l71 l70 lf7 HIA HSR HL7
            go_roundw
            case rel => exact ⟨i + 1, A7, c7, B8, c8, rs ++ [fr + (i : Int)], ts ++ [(900 + (i : Int))], by omega, by go_num, by simp; exact HRL.out, by simp; exact HTL.out, Lib.hid (by have := HP7.out.mono (n' := n + 6 * (i + 1)) (by omega); simpa using this)⟩
            case measure => simp [intOf]; omega
      ·
        have HIA := Lib.hid (HI.out.below (below_alloc (Below.refl _ _) (.cells #[.int .i64 tm] 3)))
        have HSR := Lib.hid (show Src (w2.alloc (.cells #[.int .i64 tm] 3)) 1 (some ⟨w2.heap.size, 0, none⟩) 1 [ints tm] from Src.lit w2 3 (ints tm) w2.heap.size rfl rfl (ints_one _))
        have HLL := Lib.hid (show (ts.map ints).length + 1 ≤ 2147483648 by simp; omega)
        have HSZ := Lib.hid (show w.heap.size + 2 ≤ (w2.alloc (.cells #[.int .i64 tm] 3)).heap.size from by have := HI.out.lit.lt; have := HI.out.apart; simp; omega)
        go_wp2_with (at_builtin; refine tyInt.append rfl _ _ rfl (w.heap.size + 2) _ _ rfl HIA.out.r2 _ 1 1 [ints tm] rfl HSR.out HLL.out HSZ.out ?_; intro o7 w7 hrow7 hg7 hat7; obtain ⟨B8, c8, rfl, -, -⟩ := hrow7.parts; simp only [List.length_append, List.length_map, List.length_singleton] at hrow7 hat7 ⊢; have HL7 := Lib.hid (HIA.out.lit.grown hg7 (fun e => by have h1 := (HIA.out.r2.lt _ e).1; have h2 := HIA.out.apart; omega)); have l71 := HL7.out.range 1 _ rfl; have l70 := HL7.out.range 0 _ rfl; have lf7 := HL7.out.frozen 1; simp only [Nat.zero_add] at l70 l71)
        have HP7 := Lib.hid (HIA.out.push2 hrow7 hg7 hat7)
        clear hrow7 hg7 hat7 l71 l70 lf7 HIA HSR HL7
        go_roundw
        case rel => exact ⟨i + 1, A7, c7, B8, c8, rs ++ [fr + (i : Int)], ts ++ [tm], by omega, by go_num, by simp; exact HRL.out, by simp; exact HTL.out, Lib.hid (by have := HP7.out.mono (n' := n + 6 * (i + 1)) (by omega); simpa using this)⟩
        case measure => simp [intOf]; omega
    · have hge2 : 2 ≤ rs.length := by have := HRL.out; omega
      have hte2 : 2 ≤ ts.length := by have := HTL.out; omega
      go_wp2_with fail
      refine (pick_dr 60 HI.out.dr (by omega) (by omega) (by omega)).mono ?_
      rintro e2 w2 ⟨z, hz, rfl, hd, hg⟩
      replace HI := Lib.hid (HI.out.keptC hd hg)
      clear hd hg
      replace HI := Lib.hid (HI.out.mono (n' := n + 42) (by omega))
      have HLEQ := Lib.hid (show rs.length = ts.length by have h5 := HRL.out; have h6 := HTL.out; omega)
      clear hwy hiy hy HRL HTL hi6
      generalize (z : Int) = z at hz ⊢
      go_upto_block 2 with fail
      go_cut [49] (fun _ wx => ∃ (A : Option Addr) (m d : Nat) (B : Option Addr) (k e : Nat) (rs ts : List Int), Hid (EndHt w.heap.size g c w wx (n + 100) A m d B k e rs ts))
      case first =>
        by_cases h0 : z = 0
        · obtain ⟨qa, cap, heq, -, -, -⟩ := HI.out.r1.form (by simp; omega)
          simp only [Value.slice.injEq, List.length_map] at heq
          obtain ⟨rfl, -, rfl⟩ := heq
          have hra : 1 < (rs.map ints).length := by simp; omega
          have hrc := HI.out.r1.range (k := 1) hra
          simp only [List.getElem_map] at hrc
          have hcx := int_at hrc
          rw [Nat.mul_one] at hcx
          generalize rs[1] = r1 at hcx
          have HI0 := Lib.hid (HI.out.below (Below.refl _ _).drew)
          have HIL := Lib.hid (HI0.out.below (below_alloc (Below.refl _ _) (.cells #[.int .i64 0, .int .i64 1000, .int .i64 r1] 3)))
          obtain ⟨a0, a1, f0, f1⟩ := HI.out.cells
          obtain ⟨b0, b1, -, -⟩ := HI0.out.cells
          obtain ⟨d0, d1, -, -⟩ := HIL.out.cells
          obtain ⟨e0, e1, -, -⟩ := (HI.out.below (below_alloc (Below.refl _ _) (.cells #[.int .i64 0, .int .i64 1000, .int .i64 r1] 3))).cells
          have x2 := After.keep hcx ⟨w2.alloc (.cells #[.int .i64 0, .int .i64 1000, .int .i64 r1] 3), below_alloc (Below.refl _ _) _⟩
          simp only at x2
          have x0 : w2.drew.cell? ⟨qa, 1, none⟩ = some (.int .i64 r1) := hcx
          have x1 := After.keep hcx ⟨w2.drew.alloc (.cells #[.int .i64 0, .int .i64 1000, .int .i64 r1] 3), step_ (Below.refl _ _).drew (Nat.le_refl _) (below_alloc (Below.refl _ _) _)⟩
          simp only at x1
          have hz1 : (1 : Int) < (rs.length : Int) := by omega
          have hz2 : (0 : Int) < (rs.length : Int) := by omega
          have hz3 : 0 < rs.length := by omega
          have hz4 : 1 < rs.length := by omega
          go_wp2_with fail
          go_region_law
            (first
              | (go_simp; go_at_call 75; refine (among_dr [0, 1000, r1] (min 0 r1) (max 1000 r1) HI0.out.dr _ rfl _ _ rfl (by omega) _ (h0 := by simp) (hb := by intro x hx; simp at hx; omega)).mono ?_; rintro e w5 ⟨cx, rfl, hcx5, hd, hg5⟩; have HI5 := Lib.hid (HI0.out.keptC hd hg5); clear hd hg5; obtain ⟨g0, g1, -, -⟩ := HI5.out.cells; have hu0 := HI5.out.r1.range (k := 0) (by simp; omega); simp only [List.getElem_map, Nat.zero_mul] at hu0; have hu := int_at hu0; have hfu := HI5.out.r1.frozen 0; clear hu0))
          all_goals
            go_wp2_with fail
            go_meet
            exact ⟨_, _, _, _, _, _, _, _, Lib.hid (((HI5.out.put1 hz3 cx).mono (by omega)).end_ rfl HGE.out (by simp; omega) (by omega))⟩
        by_cases h1 : z = 1
        · obtain ⟨qb, cap, heq, -, -, -⟩ := HI.out.r2.form (by simp; omega)
          simp only [Value.slice.injEq, List.length_map] at heq
          obtain ⟨rfl, -, rfl⟩ := heq
          have HI0 := Lib.hid (HI.out.below (Below.refl _ _).drew)
          have HIL := Lib.hid (HI0.out.below (below_alloc (Below.refl _ _) (.cells #[.int .i64 (-1), .int .i64 36001] 3)))
          obtain ⟨a0, a1, f0, f1⟩ := HI.out.cells
          obtain ⟨b0, b1, -, -⟩ := HI0.out.cells
          obtain ⟨d0, d1, -, -⟩ := HIL.out.cells
          obtain ⟨e0, e1, -, -⟩ := (HI.out.below (below_alloc (Below.refl _ _) (.cells #[.int .i64 (-1), .int .i64 36001] 3))).cells
          have hz2 : (0 : Int) < (ts.length : Int) := by omega
          have hz3 : 0 < ts.length := by omega
          go_wp2_with fail
          go_region_law
            (first
              | (go_simp; go_at_call 75; refine (among_dr [-1, 36001] (-1) 36001 HI0.out.dr _ rfl _ _ rfl (by omega) _).mono ?_; rintro e w5 ⟨cx, rfl, hcx5, hd, hg5⟩; have HI5 := Lib.hid (HI0.out.keptC hd hg5); clear hd hg5; obtain ⟨g0, g1, -, -⟩ := HI5.out.cells; have hu0 := HI5.out.r2.range (k := 0) (by simp; omega); simp only [List.getElem_map, Nat.zero_mul] at hu0; have hu := int_at hu0; have hfu := HI5.out.r2.frozen 0; clear hu0))
          all_goals
            go_wp2_with fail
            go_meet
            exact ⟨_, _, _, _, _, _, _, _, Lib.hid (((HI5.out.put2 hz3 cx).mono (by omega)).end_ rfl HGE.out (by omega) (by simp; omega))⟩
        by_cases h2 : z = 2
        ·
          obtain ⟨a0, a1, f0, f1⟩ := HI.out.cells
          have hz4 : ts.length ≤ e := by obtain ⟨_, _, h5, h6, _⟩ := HI.out.r2.parts; simp only [Value.slice.injEq, List.length_map] at h5 h6; omega
          obtain ⟨qb, cap, heq, -, -, -⟩ := HI.out.r2.form (by simp; omega)
          simp only [Value.slice.injEq, List.length_map] at heq
          obtain ⟨rfl, -, rfl⟩ := heq
          have hz3 : (1 : Int) ≤ (ts.length : Int) := by omega
          have hz5 : (1 : Int) ≤ (e : Int) := by omega
          go_wp2_with fail
          go_meet
          exact ⟨_, _, _, _, _, _, _, _, Lib.hid ((HI.out.mono (by omega)).tail2 rfl HGE.out (by omega) (by omega) (by omega))⟩
        by_cases h3 : z = 3
        ·
          obtain ⟨a0, a1, f0, f1⟩ := HI.out.cells
          have hz3 : (1 : Int) ≤ (ts.length : Int) := by omega
          have hz4 : ts.length ≤ e := by obtain ⟨_, _, h5, h6, _⟩ := HI.out.r2.parts; simp only [Value.slice.injEq, List.length_map] at h5 h6; omega
          have hz5 : (1 : Int) ≤ (e : Int) := by omega
          have hz6 : rs.length ≤ d := by obtain ⟨_, _, h5, h6, _⟩ := HI.out.r1.parts; simp only [Value.slice.injEq, List.length_map] at h5 h6; omega
          have hz7 : (1 : Int) ≤ (d : Int) := by omega
          go_wp2_with fail
          go_meet
          exact ⟨_, _, _, _, _, _, _, _, Lib.hid ((HI.out.mono (by omega)).cut11 rfl HGE.out (by omega) (by omega) (by omega) (by omega))⟩
        by_cases h4 : z = 4
        · subst h4
          go_wp2_with fail
          go_loopw [92] (fun _ wr => ∃ (A : Option Addr) (d : Nat) (B : Option Addr) (e : Nat) (rs ts : List Int), rs.length ≤ 7 ∧ ts.length ≤ 7 ∧ rs.length = ts.length ∧ Hid (InHt w.heap.size g (w.heap.size + 2) c w wr (n + 44 + 2 * rs.length) A rs.length d B ts.length e rs ts))
            (fun _ wx => heatLeft g wx)
          case atStart => exact ⟨_, _, _, _, rs, ts, by omega, by omega, HLEQ.out, HI.out.mono (by omega)⟩
          case round =>
            clear HI hrl6 htl6 hge2 hte2
            obtain ⟨A, d, B, e, rs, ts, hrl, htl, hll, HI⟩ := hrel
            have HLN := Lib.hid hll
            clear hll
            have HI0 := Lib.hid (HI.out.below (Below.refl _ _).drew)
            obtain ⟨a0, a1, f0, f1⟩ := HI.out.cells
            have HM0 := Lib.hid a0
            obtain ⟨b0, b1, -, -⟩ := HI0.out.cells
            go_wp2_with fail
            go_region_law
              (first
                | (go_simp; go_at_call 76; refine (pick_dr 2 HI0.out.dr (by omega) (by omega) (by omega)).mono ?_; rintro e0 w5 ⟨y2, hy2, rfl, hd, hg5⟩; have HI5 := Lib.hid (HI0.out.keptC hd hg5); clear hd hg5; obtain ⟨g0, g1, -, -⟩ := HI5.out.cells; have hwy : IntKind.i64.wrap (6 + (y2 : Int)) = 6 + (y2 : Int) := by rw [IntKind.wrap_i64]; omega))
            all_goals
              clear g0 g1 b0 b1 a0 a1 f0 f1 HI HI0
              by_cases hlt6 : (rs.length : Int) < 6 + (y2 : Int)
              · have HI := HI5
                have hwf : IntKind.i64.wrap (fr + (rs.length : Int)) = fr + (rs.length : Int) := by rw [IntKind.wrap_i64]; omega
                have hwt : IntKind.i64.wrap (1000 + (ts.length : Int)) = 1000 + (ts.length : Int) := by rw [IntKind.wrap_i64]; omega
                have HIA := Lib.hid (HI.out.below (below_alloc (Below.refl _ _) (.cells #[.int .i64 (fr + (rs.length : Int))] 3)))
                have HSR := Lib.hid (show Src (w5.alloc (.cells #[.int .i64 (fr + (rs.length : Int))] 3)) 1 (some ⟨w5.heap.size, 0, none⟩) 1 [ints (fr + (rs.length : Int))] from Src.lit w5 3 (ints (fr + (rs.length : Int))) w5.heap.size rfl rfl (ints_one _))
                have HLL := Lib.hid (show (rs.map ints).length + 1 ≤ 2147483648 by simp; omega)
                have HSZ := Lib.hid (show w.heap.size + 2 ≤ (w5.alloc (.cells #[.int .i64 (fr + (rs.length : Int))] 3)).heap.size from by have := HI.out.lit.lt; have := HI.out.apart; simp; omega)
                obtain ⟨a0, a1, f0, f1⟩ := HI.out.cells
                go_upto_region 23 with (at_builtin; refine tyInt.append rfl _ _ rfl (w.heap.size + 2) _ _ rfl HIA.out.r1 _ 1 1 [ints (fr + (rs.length : Int))] rfl HSR.out HLL.out HSZ.out ?_; intro o7 w7 hrow7 hg7 hat7; obtain ⟨A7, c7, rfl, -, -⟩ := hrow7.parts; simp only [List.length_append, List.length_map, List.length_singleton] at hrow7 hat7 ⊢; have HL7 := Lib.hid (HIA.out.lit.grown hg7 (fun e => by have h1 := (HIA.out.r1.lt _ e).1; have h2 := HIA.out.apart; omega)); have l71 := HL7.out.range 1 _ rfl; have l70 := HL7.out.range 0 _ rfl; have lf7 := HL7.out.frozen 0; simp only [Nat.zero_add] at l70 l71)
                replace HI := Lib.hid (HIA.out.push1 hrow7 hg7 hat7)
                clear a0 a1 f0 f1
                clear hrow7 hg7 hat7 l71 l70 lf7 HIA HSR HL7 HLL HSZ HI5
                generalize w7.setCell ⟨g, 0, none⟩ (.slice A7 (rs.length + 1) c7) = W7 at HI ⊢
                obtain ⟨a0, a1, f0, f1⟩ := HI.out.cells
                have HIA := Lib.hid (HI.out.below (below_alloc (Below.refl _ _) (.cells #[.int .i64 (1000 + (ts.length : Int))] 3)))
                have HSR := Lib.hid (show Src (W7.alloc (.cells #[.int .i64 (1000 + (ts.length : Int))] 3)) 1 (some ⟨W7.heap.size, 0, none⟩) 1 [ints (1000 + (ts.length : Int))] from Src.lit W7 3 (ints (1000 + (ts.length : Int))) W7.heap.size rfl rfl (ints_one _))
                have HLL := Lib.hid (show (ts.map ints).length + 1 ≤ 2147483648 by simp; omega)
                have HSZ := Lib.hid (show w.heap.size + 2 ≤ (W7.alloc (.cells #[.int .i64 (1000 + (ts.length : Int))] 3)).heap.size from by have := HI.out.lit.lt; have := HI.out.apart; simp; omega)
                go_wp2_with (at_builtin; refine tyInt.append rfl _ _ rfl (w.heap.size + 2) _ _ rfl HIA.out.r2 _ 1 1 [ints (1000 + (ts.length : Int))] rfl HSR.out HLL.out HSZ.out ?_; intro o7 w7 hrow7 hg7 hat7; obtain ⟨B8, c8, rfl, -, -⟩ := hrow7.parts; simp only [List.length_append, List.length_map, List.length_singleton] at hrow7 hat7 ⊢; have HL7 := Lib.hid (HIA.out.lit.grown hg7 (fun e => by have h1 := (HIA.out.r2.lt _ e).1; have h2 := HIA.out.apart; omega)); have l71 := HL7.out.range 1 _ rfl; have l70 := HL7.out.range 0 _ rfl; have lf7 := HL7.out.frozen 1; simp only [Nat.zero_add] at l70 l71)
                have HP7 := Lib.hid (HIA.out.push2 hrow7 hg7 hat7)
                clear hrow7 hg7 hat7 l71 l70 lf7 HIA HSR HL7
                have HN7 := Lib.hid (show Hid (InHt w.heap.size g (w.heap.size + 2) c w (w7.setCell ⟨g, 1, none⟩ (.slice B8 (ts.length + 1) c8)) (n + 44 + 2 * (rs ++ [fr + (rs.length : Int)]).length) A7 (rs ++ [fr + (rs.length : Int)]).length c7 B8 (ts ++ [1000 + (ts.length : Int)]).length c8 (rs ++ [fr + (rs.length : Int)]) (ts ++ [1000 + (ts.length : Int)])) from Lib.hid (by have := HP7.out.mono (n' := n + 44 + 2 * (rs.length + 1)) (by omega); simpa using this))
                have HM7 := Lib.hid HP7.out.cells.1
                go_roundw
                case rel => exact ⟨A7, c7, B8, c8, rs ++ [fr + (rs.length : Int)], ts ++ [1000 + (ts.length : Int)], by simp; omega, by simp; have := HLN.out; omega, by simp; exact HLN.out, HN7.out⟩
                case measure =>
                  rw [heatLeft_is HM0.out, heatLeft_is HM7.out]
                  omega
              · go_wp2_with fail
                go_meet
                exact ⟨_, _, _, _, _, _, _, _, Lib.hid ((HI5.out.mono (by omega)).end_ rfl HGE.out (by omega) (by omega))⟩
        go_wp2_with fail
        go_meet
        exact ⟨_, _, _, _, _, _, _, _, Lib.hid ((HI.out.mono (by omega)).end_ rfl HGE.out (by omega) (by omega))⟩
      case rest =>
        clear HI
        obtain ⟨A, m, d, B, k, e, rs, ts, HI⟩ := hcut
        have r0 := HI.out.lit.range 0 _ rfl
        have r1 := HI.out.lit.range 1 _ rfl
        have y0 := HI.out.zero.range 0 _ rfl
        have y1 := HI.out.zero.range 1 _ rfl
        have yf := HI.out.zero.frozen
        simp only [Nat.zero_add] at r0 r1 y0 y1
        have HAP := Lib.hid HI.out.apart
        go_wp2_with fail
        have hgg : wc.grownBy ((wc.setCell ⟨w.heap.size, 0, none⟩ (.slice A m d)).setCell ⟨w.heap.size, 1, none⟩ (.slice B k e)) (some w.heap.size) := grown_trans grown_setCell grown_setCell
        have hdd := HI.out.dr.own hlt hgg (fun k e => by have := Option.some.inj e; omega)
        refine bodyPost_ret (v := .agg #[.slice A m d, .slice B k e]) (by simp [results, Try.results77, go_sem, y0, y1, yf]) rfl ⟨⟨⟨rs, ts⟩, A, m, d, B, k, e⟩, rfl, ⟨?_, ?_⟩, ?_, HI.out.lens, hdd, hdd.grown⟩
        · exact HI.out.s1.keptG hgg (fun q hq e => by have := HI.out.far q (.inl hq); have := Option.some.inj e; omega)
        · exact HI.out.s2.keptG hgg (fun q hq e => by have := HI.out.far q (.inr hq); have := Option.some.inj e; omega)
        · intro q hq
          have := HI.out.far q hq
          simp
          omega
end Go.Proofs.Ytabgmbmaakglkaa
