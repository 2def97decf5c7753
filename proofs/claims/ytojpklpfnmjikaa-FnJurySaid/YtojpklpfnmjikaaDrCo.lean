/- The draws of codes, of a limit and of a runner. Condition: the cursor has not come too far. -/
import Derived.Test.YtojpklpfnmjikaaDrw
import Derived.Test.YtojpklpfnmjikaaInts
import Derived.Deep.DeepCutAuto
import Derived.Deep.CutBlock
namespace Go.Proofs.Ytojpklpfnmjikaa
open Go Go.RowKit

def lenV : Value → Nat
  | .slice _ n _ => n
  | _ => 0
theorem row_lenV {base : Nat} {w : World} {v : Value} {xs : List Int} (h : Row base 3 1 w v (xs.map ints)) : lenV v = xs.length := by
  obtain ⟨A, d, e, _, _⟩ := h.parts
  rw [e]; simp [lenV]
set_option maxRecDepth 100000 in
set_option maxHeartbeats 8000000 in
theorem codes12_any (c n : Nat) (w : World) (h : Cur c w n) (hn : n ≤ 10000) :
    Calls Try.prog 82 #[.pointer (some ⟨c, 0, none⟩)] w fun e w' => ∃ (v : Value) (xs : List Int), e = .returned v ∧ Row w.heap.size 3 1 w' v (xs.map ints) ∧ xs.length ≤ 13 ∧ (∀ x ∈ xs, 0 ≤ x ∧ x ≤ 100) ∧ Dr c w w' (n + 100) := by
  have hlt := h.lt
  have HD := Lib.hid ((Dr.start h).alloc (.cells #[] 3))
  have HR := Lib.hid (show Row w.heap.size 3 1 (w.alloc (.cells #[] 3)) (.slice (some ⟨w.heap.size, 0, none⟩) 0 0) (([] : List Int).map ints) from Row.lit_nil w 3 1 (Nat.le_refl _))
  clear h
  go_enter Try.func82, Try.ntmps82
  go_upto_region 2 with fail
  generalize w.alloc (.cells #[] 3) = W0 at *
  go_wp2_with fail
  refine (pick_dr 7 HD.out (by omega) (by omega) (by omega)).mono ?_
  rintro e w1 ⟨y, hy, rfl, hd, hg⟩
  replace HD := Lib.hid hd
  replace HR := Lib.hid (HR.out.keptC hlt hg)
  clear hd hg
  go_upto_block 0 with fail
  go_cut [3] (fun v wx => ∃ xs : List Int, xs.length ≤ 6 ∧ Hid (∀ x ∈ xs, 0 ≤ x ∧ x ≤ 100) ∧ Hid (Row w.heap.size 3 1 wx v (xs.map ints)) ∧ Hid (Dr c w wx (n + 20)))
  case first =>
    go_wp2_with fail
    go_loopw [3, 4] (fun v iv wr => ∃ (i : Nat) (xs : List Int), iv = .int .i64 i ∧ xs.length + i ≤ 6 ∧ Hid (∀ x ∈ xs, 0 ≤ x ∧ x ≤ 100) ∧ Hid (Row w.heap.size 3 1 wr v (xs.map ints)) ∧ Hid (Dr c w wr (n + 2 + 2 * (6 - i))))
      (fun _ iv _ => (intOf iv).toNat)
    case atStart => exact ⟨y, [], rfl, by simp; omega, fun x hx => absurd hx (by simp), HR.out, HD.out.mono (by omega)⟩
    case round =>
      clear HD HR
      obtain ⟨i, xs, rfl, hxl, HX, HR, HD⟩ := hrel
      by_cases hi : 0 < i
      · have hii : (0 : Int) < (i : Int) := by omega
        go_wp2_with fail
        refine (among_dr [31, 32, 34, 41, 45, 77, 99, 31] 31 99 HD.out _ rfl _ _ rfl (by omega) _).mono ?_
        rintro e w4 ⟨x, rfl, hx, hd, hg⟩
        replace HD := Lib.hid hd
        replace HR := Lib.hid (HR.out.keptC hlt hg)
        clear hd hg
        have HRA := Lib.hid (HR.out.alloc (.cells #[.int .i64 x] 3))
        have HDA := Lib.hid (HD.out.alloc (.cells #[.int .i64 x] 3))
        have HSR := Lib.hid (show Src (w4.alloc (.cells #[.int .i64 x] 3)) 1 (some ⟨w4.heap.size, 0, none⟩) 1 [ints x] from Src.lit w4 3 (ints x) w4.heap.size rfl rfl (ints_one _))
        have HLL := Lib.hid (show (xs.map ints).length + 1 ≤ 2147483648 by simp; omega)
        have hsw2 : w.heap.size ≤ (w4.alloc (.cells #[.int .i64 x] 3)).heap.size := by have := HD.out.size; simp; omega
        go_wp2_with (at_builtin; refine tyInt.append rfl _ _ rfl w.heap.size u3 _ rfl HRA.out _ 1 1 [ints x] rfl HSR.out HLL.out hsw2 ?_; intro o7 w7 hrow7 hg7 hat7)
        have HD7 := Lib.hid (HDA.out.own hlt hg7 (fun g hg => (HRA.out.lt g hg).1))
        have HR7 := Lib.hid (show Row w.heap.size 3 1 w7 o7 ((xs ++ [x]).map ints) from by simpa using hrow7)
        have HX7 := Lib.hid (show ∀ z0 ∈ xs ++ [x], 0 ≤ z0 ∧ z0 ≤ 100 from fun z0 hz0 => by
          rcases List.mem_append.1 hz0 with hz0 | hz0
          · exact HX.out z0 hz0
          · rw [List.mem_singleton.1 hz0]; omega)
        clear hrow7 hg7 hat7 HRA HDA HSR HLL hsw2
        go_roundw
        case rel => exact ⟨i - 1, xs ++ [x], by go_num, by simp; omega, HX7.out, HR7.out, HD7.out.mono (by omega)⟩
        case measure => simp [intOf]; omega
      · obtain rfl : i = 0 := by omega
        go_wp2_with fail
        go_meet
        exact ⟨xs, by omega, HX, HR, Lib.hid (HD.out.mono (by omega))⟩
  case rest =>
    clear HD HR
    obtain ⟨xs, hxl, HX, HR, HD⟩ := hcut
    go_wp2_with fail
    refine (pick_dr 32 HD.out (by omega) (by omega) (by omega)).mono ?_
    rintro e w1 ⟨y, hy, rfl, hd, hg⟩
    replace HD := Lib.hid hd
    replace HR := Lib.hid (HR.out.keptC hlt hg)
    clear hd hg
    go_upto_block 2 with fail
    go_cut [3] (fun v wx => ∃ xs : List Int, xs.length ≤ 13 ∧ Hid (∀ x ∈ xs, 0 ≤ x ∧ x ≤ 100) ∧ Hid (Row w.heap.size 3 1 wx v (xs.map ints)) ∧ Hid (Dr c w wx (n + 60)))
    case first =>
      cases e0 : ((y : Int) == 0) with
      | true =>
        go_wp2_with fail
        refine (among_dr [30, 100] 30 100 HD.out _ rfl _ _ rfl (by omega) _).mono ?_
        rintro e w4 ⟨x, rfl, hx, hd, hg⟩
        replace HD := Lib.hid hd
        replace HR := Lib.hid (HR.out.keptC hlt hg)
        clear hd hg
        have HRA := Lib.hid (HR.out.alloc (.cells #[.int .i64 x] 3))
        have HDA := Lib.hid (HD.out.alloc (.cells #[.int .i64 x] 3))
        have HSR := Lib.hid (show Src (w4.alloc (.cells #[.int .i64 x] 3)) 1 (some ⟨w4.heap.size, 0, none⟩) 1 [ints x] from Src.lit w4 3 (ints x) w4.heap.size rfl rfl (ints_one _))
        have HLL := Lib.hid (show (xs.map ints).length + 1 ≤ 2147483648 by simp; omega)
        have hsw2 : w.heap.size ≤ (w4.alloc (.cells #[.int .i64 x] 3)).heap.size := by have := HD.out.size; simp; omega
        go_wp2_with (at_builtin; refine tyInt.append rfl _ _ rfl w.heap.size u3 _ rfl HRA.out _ 1 1 [ints x] rfl HSR.out HLL.out hsw2 ?_; intro o7 w7 hrow7 hg7 hat7)
        have HD7 := Lib.hid (HDA.out.own hlt hg7 (fun g hg => (HRA.out.lt g hg).1))
        have HR7 := Lib.hid (show Row w.heap.size 3 1 w7 o7 ((xs ++ [x]).map ints) from by simpa using hrow7)
        have HX7 := Lib.hid (show ∀ z0 ∈ xs ++ [x], 0 ≤ z0 ∧ z0 ≤ 100 from fun z0 hz0 => by
          rcases List.mem_append.1 hz0 with hz0 | hz0
          · exact HX.out z0 hz0
          · rw [List.mem_singleton.1 hz0]; omega)
        clear hrow7 hg7 hat7 HRA HDA HSR HLL hsw2
        go_meet
        exact ⟨xs ++ [x], by simp; omega, HX7, HR7, Lib.hid (HD7.out.mono (by omega))⟩
      | false =>
       cases e1 : ((y : Int) == 1) with
       | true =>
        go_wp2_with fail
        go_loopw [3] (fun v wr => ∃ xs : List Int, xs.length ≤ 13 ∧ lenV v = xs.length ∧ Hid (∀ x ∈ xs, 0 ≤ x ∧ x ≤ 100) ∧ Hid (Row w.heap.size 3 1 wr v (xs.map ints)) ∧ Hid (Dr c w wr (n + 22 + 2 * xs.length)))
          (fun v _ => 40 - lenV v)
        case atStart => exact ⟨xs, by omega, row_lenV HR.out, HX.out, HR.out, HD.out.mono (by omega)⟩
        case round =>
          clear HD HR HX hxl
          obtain ⟨xs, hxl, hlv, HX, HR, HD⟩ := hrel
          obtain ⟨A2, d2, rfl, hd2, hd3⟩ := HR.out.parts
          simp only [List.length_map] at HR hd2 ⊢
          go_wp2_with fail
          refine (pick_dr 2 HD.out (by omega) (by omega) (by omega)).mono ?_
          rintro e w4 ⟨z, hz, rfl, hd, hg⟩
          replace HD := Lib.hid hd
          replace HR := Lib.hid (HR.out.keptC hlt hg)
          clear hd hg
          have hwr : IntKind.i64.wrap ((12 : Int) + (z : Int)) = 12 + (z : Int) := by rw [IntKind.wrap_i64]; omega
          by_cases hlz : xs.length < 12 + z
          · have hly : (xs.length : Int) < 12 + (z : Int) := by omega
            have HRA := Lib.hid (HR.out.alloc (.cells #[.int .i64 (31 : Int)] 3))
            have HDA := Lib.hid (HD.out.alloc (.cells #[.int .i64 (31 : Int)] 3))
            have HSR := Lib.hid (show Src (w4.alloc (.cells #[.int .i64 (31 : Int)] 3)) 1 (some ⟨w4.heap.size, 0, none⟩) 1 [ints (31 : Int)] from Src.lit w4 3 (ints (31 : Int)) w4.heap.size rfl rfl (ints_one _))
            have HLL := Lib.hid (show (xs.map ints).length + 1 ≤ 2147483648 by simp; omega)
            have hsw2 : w.heap.size ≤ (w4.alloc (.cells #[.int .i64 (31 : Int)] 3)).heap.size := by have := HD.out.size; simp; omega
            go_wp2_with (at_builtin; refine tyInt.append rfl _ _ rfl w.heap.size (.slice A2 xs.length d2) _ rfl HRA.out _ 1 1 [ints (31 : Int)] rfl HSR.out HLL.out hsw2 ?_; intro o7 w7 hrow7 hg7 hat7)
            have HD7 := Lib.hid (HDA.out.own hlt hg7 (fun g hg => (HRA.out.lt g hg).1))
            have HR7 := Lib.hid (show Row w.heap.size 3 1 w7 o7 ((xs ++ [(31 : Int)]).map ints) from by simpa using hrow7)
            have HX7 := Lib.hid (show ∀ z0 ∈ xs ++ [(31 : Int)], 0 ≤ z0 ∧ z0 ≤ 100 from fun z0 hz0 => by
              rcases List.mem_append.1 hz0 with hz0 | hz0
              · exact HX.out z0 hz0
              · rw [List.mem_singleton.1 hz0]; omega)
            clear hrow7 hg7 hat7 HRA HDA HSR HLL hsw2
            have hl7 : lenV o7 = xs.length + 1 := by rw [row_lenV HR7.out]; simp
            go_roundw
            case rel => exact ⟨xs ++ [(31 : Int)], by simp; omega, by simp [hl7], HX7.out, HR7.out, HD7.out.mono (by simp; omega)⟩
            case measure => rw [hl7]; simp only [lenV]; omega
          · have hly : ¬ (xs.length : Int) < 12 + (z : Int) := by omega
            go_wp2_with fail
            go_meet
            exact ⟨xs, hxl, HX, HR, Lib.hid (HD.out.mono (by omega))⟩
       | false =>
        go_wp2_with fail
        go_meet
        exact ⟨xs, by omega, HX, HR, Lib.hid (HD.out.mono (by omega))⟩
    case rest =>
      clear HD HR HX hxl
      obtain ⟨xs, hxl, HX, HR, HD⟩ := hcut
      go_wp2_with fail
      go_ret
      exact ⟨u3, xs, rfl, HR.out, hxl, HX.out, HD.out.mono (by omega)⟩
set_option maxRecDepth 100000 in
theorem limit15_any (c n : Nat) (w0 w : World) (h : Dr c w0 w n) (hn : n ≤ 10000) :
    Calls Try.prog 84 #[.pointer (some ⟨c, 0, none⟩)] w fun e w' => ∃ x : Int, e = .returned (.int .i64 x) ∧ (0 ≤ x ∧ x ≤ 36001) ∧ Dr c w0 w' (n + 2) ∧ w.grownBy w' (some c) := by
  have HD := Lib.hid h
  clear h
  go_enter Try.func84, Try.ntmps84
  go_wp2_with fail
  refine (among_dr [100, 300, 500, 1000, 3600, 36000, 36001, 0, 800, 2000] 0 36001 HD.out _ rfl _ _ rfl (by omega) _).mono ?_
  rintro e w4 ⟨x, rfl, hx, hd, hg⟩
  have HF := Lib.hid (And.intro hd hg)
  clear hd hg
  go_wp2_with fail
  go_ret
  exact ⟨x, rfl, hx, HF.out.1, HF.out.2⟩
end Go.Proofs.Ytojpklpfnmjikaa
