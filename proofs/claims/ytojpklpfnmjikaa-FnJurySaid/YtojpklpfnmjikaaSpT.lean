/- The split times of a run that found all codes, the program's. Conditions: the card and the codes are valid, and all codes are found. -/
import Derived.Test.YtojpklpfnmjikaaBlA
import Derived.Test.YtojpklpfnmjikaaJuQ
import Derived.Test.YtojpklpfnmjikaaCdC
import Derived.Deep.RegionHeld3
namespace Go.Proofs.Ytojpklpfnmjikaa
open Go Go.RowKit

set_option maxRecDepth 100000 in
set_option maxHeartbeats 4000000 in
theorem impl_FoundAt_ok (p : Card) (cs : List Int) (u : Value) (w : World) (h : p.In w) (hs : Sl (Flat ints) 1 w u cs) (hc : cardOk p.k = true) (hco : codesOk cs = true) :
    Calls Try.prog 90 #[p.val, u] w fun e w' => ∃ r, e = .returned (.tuple #[r, .bool true]) ∧ Row w.heap.size 3 1 w' r ((foundL p.k.punches cs).map ints) ∧ Below w.heap.size w w' := by
  have hlen := codesOk_len hco
  have hW : Below w.heap.size w (w.alloc (.cells #[.int .i64 p.k.number, .int .i64 p.k.start, .int .i64 p.k.finish, .slice p.a p.n p.c] 51)) := below_alloc (Below.refl _ _) _
  have hr := rangeAt_new w p.lst 51
  have HR := Lib.hid hr
  have HC := Lib.hid (fun W (hW : Below w.heap.size w W) => IsCard_any p W (h.below hW))
  have HA := Lib.hid (fun W (hW : Below w.heap.size w W) => areCodes_any cs u W (hs.below (Flat.keeps _) hW))
  have HF := Lib.hid (fun W (hW : Below w.heap.size w W) => foundAt_any p cs u W (h.below hW) (hs.below (Flat.keeps _) hW) (by omega))
  rw [hc] at HC
  rw [hco] at HA
  have HW := Lib.hid hW
  show Calls Try.prog 90 #[.agg #[.int .i64 p.k.number, .int .i64 p.k.start, .int .i64 p.k.finish, .slice p.a p.n p.c], u] w _
  clear h hs hc hco hW
  go_enter Try.func90, Try.ntmps90
  go_wp2_with (first
    | ((with_reducible refine at_load_ 51 ?_); refine Card.loadImpl rfl _ rfl w.heap.size 0 rfl p hr ?_)
    | (go_at_call 95; refine (HC.out _ HW.out).mono ?_; rintro e w1 ⟨rfl, hb1⟩; have HB1 := Lib.hid (step_ HW.out (Nat.le_refl _) hb1); have HR1 := Lib.hid (rangeAt_below HR.out hb1))
    | (go_at_call 105; refine (HA.out _ HB1.out).mono ?_; rintro e w2 ⟨rfl, hb2⟩; have HB2 := Lib.hid (step_ HB1.out (Nat.le_refl _) hb2); have hr2 := rangeAt_below HR1.out hb2)
    | ((with_reducible refine at_load_ 51 ?_); refine Card.loadImpl rfl _ rfl w.heap.size 0 rfl p hr2 ?_)
    | (go_at_call 71; refine (HF.out _ HB2.out).mono ?_; rintro e w3 ⟨r, rfl, row, hb3⟩; have HROW := Lib.hid (row.mono HB2.out.size); have HB3 := Lib.hid (step_ HB2.out (Nat.le_refl _) hb3)))
  go_ret2
  exact ⟨_, rfl, HROW.out, HB3.out⟩
set_option maxRecDepth 100000 in
set_option maxHeartbeats 8000000 in
theorem impl_SplitTimes_ok (p : Card) (k : RunK) (cs : List Int) (u : Value) (w : World) (hkp : k.card = p.k) (h : p.In w) (hs : Sl (Flat ints) 1 w u cs) (hc : cardOk p.k = true) (hco : codesOk cs = true)
    (hfd : ∀ i (_ : i < cs.length), ∃ a : Nat, a < k.card.punches.length ∧ (foundL k.card.punches cs)[i]? = some (a : Int)) (htm : ∀ i, i < cs.length → 0 ≤ timeI k cs i ∧ timeI k cs i ≤ 36000) :
    Calls Try.prog 50 #[p.val, u] w fun e w' => ∃ r, e = .returned (.tuple #[r, .bool true]) ∧ Row w.heap.size 3 1 w' r ((spL k cs).map ints) ∧ Below w.heap.size w w' := by
  have hlen := codesOk_len hco
  have hst := cardOk_start hc
  have hW : Below w.heap.size w (w.alloc (.cells #[.int .i64 p.k.number, .int .i64 p.k.start, .int .i64 p.k.finish, .slice p.a p.n p.c] 51)) := below_alloc (Below.refl _ _) _
  have hr := rangeAt_new w p.lst 51
  have HR := Lib.hid hr
  have HF := Lib.hid (fun W (hW : Below w.heap.size w W) => impl_FoundAt_ok p cs u W (h.below hW) (hs.below (Flat.keeps _) hW) hc hco)
  have HIN := Lib.hid h
  have HW := Lib.hid hW
  have HFD := Lib.hid hfd
  have HTM := Lib.hid htm
  have HKP := Lib.hid hkp
  show Calls Try.prog 50 #[.agg #[.int .i64 p.k.number, .int .i64 p.k.start, .int .i64 p.k.finish, .slice p.a p.n p.c], u] w _
  clear h hs hc hco hW hfd htm hkp
  go_enter Try.func50, Try.ntmps50
  go_wp2_with ((with_reducible refine at_load_ 51 ?_); refine Card.loadImpl rfl _ rfl w.heap.size 0 rfl p hr ?_)
  refine (HF.out _ HW.out).mono ?_
  rintro e w1 ⟨fv, rfl, row, hb1⟩
  have hfl : (foundL p.k.punches cs).length = cs.length := found_len _ _
  obtain ⟨FA, fc, rfl, hfc, -⟩ := row.parts
  simp only [List.length_map, hfl] at row hfc ⊢
  have HROW := Lib.hid row
  have HB1 := Lib.hid (step_ HW.out (Nat.le_refl _) hb1)
  have HR1 := Lib.hid (rangeAt_below HR.out hb1)
  have hany : (foundL p.k.punches cs).any (fun y => (-1 : Int) == y) = false := by
    rw [List.any_eq_false]
    intro y hy
    obtain ⟨i, hi, rfl⟩ := List.getElem_of_mem hy
    obtain ⟨a, ha, hfa⟩ := HFD.out i (by omega)
    rw [HKP.out, List.getElem?_eq_getElem hi] at hfa
    rw [Option.some.inj hfa]
    simp
  have HCT := Lib.hid (containsInt_any (foundL p.k.punches cs) (.slice FA cs.length fc) (-1) w1 (Sl.of_flat row))
  rw [hany] at HCT
  clear hany row hb1 hr HF hfl
  have hfc0 : (0 : Int) ≤ (cs.length : Int) := by omega
  go_wp2_with fail
  refine HCT.out.mono ?_
  rintro e w1' ⟨rfl, rfl⟩
  have own0 : Own w1 3 1 (w1.alloc (.cells #[] 3)) (.slice (some ⟨w1.heap.size, 0, none⟩) 0 0) (((List.range 0).map fun j => timeI k cs j - k.card.start).map ints) := Own.nil (Below.refl _ _) _ rfl
  clear HCT
  go_wp2_with fail
  go_loopw [8, 26] (fun o iv wr => ∃ i : Nat, i ≤ cs.length ∧ iv = .int .i64 i ∧ Hid (Own w1 3 1 wr o (((List.range i).map fun j => timeI k cs j - k.card.start).map ints)))
    (fun _ iv _ => cs.length - (intOf iv).toNat)
  case atStart => exact ⟨0, Nat.zero_le _, rfl, own0⟩
  case round =>
    clear own0
    obtain ⟨i, hil, rfl, HO⟩ := hrel
    by_cases hi : i < cs.length
    · have hii : (i : Int) < (cs.length : Int) := by omega
      have hi0 : (0 : Int) ≤ (i : Int) := by omega
      obtain ⟨a, ha, hfa⟩ := HFD.out i hi
      have hfl : (foundL p.k.punches cs).length = cs.length := found_len _ _
      obtain ⟨fg, fc', he, -, -, -⟩ := HROW.out.form (by simp [hfl]; omega)
      simp only [Value.slice.injEq, List.length_map] at he
      obtain ⟨rfl, -, rfl⟩ := he
      have hfcell := cell_ints (HROW.out.below HO.out.2) (k := i) (by rw [hfl]; exact hi)
      have hfe : (foundL p.k.punches cs)[i]'(by rw [hfl]; exact hi) = (a : Int) := by
        rw [HKP.out, List.getElem?_eq_getElem (by rw [hfl]; exact hi)] at hfa
        exact Option.some.inj hfa
      rw [hfe] at hfcell
      have hin1 := HIN.out.below HB1.out
      have ha' : a < p.k.punches.length := by rw [← HKP.out]; exact ha
      obtain ⟨pb, po, hpa, hpc⟩ := Card.punch hin1 ha'
      have hpt : p.k.punches[a].time = timeI k cs i := by
        have := timeI_at (k := k) ha hfa
        rw [this]
        congr 1
        simp only [HKP.out]
      rw [hpt] at hpc
      obtain ⟨tm, htm⟩ : ∃ tm, timeI k cs i = tm := ⟨_, rfl⟩
      have htb := HTM.out i hi
      rw [htm] at hpc htb
      obtain ⟨sv, hsv⟩ : ∃ sv, p.k.start = sv := ⟨_, rfl⟩
      obtain ⟨pn, hpn⟩ : ∃ pn, p.k.punches.length = pn := ⟨_, rfl⟩
      rw [hsv] at hst
      rw [hpn] at ha'
      have HS3 := Lib.hid (show ∀ W, Below w1.heap.size w1 W → W.cell? ⟨w.heap.size, 3, none⟩ = some (.slice (some ⟨pb, po, none⟩) pn p.c) ∧ W.cell? ⟨w.heap.size, 1, none⟩ = some (.int .i64 sv) ∧ W.cell? ⟨pb, po + a * 2 + 1, none⟩ = some (.int .i64 tm) from fun W hW => by
        have hc := Card.cells (rangeAt_below HR1.out hW)
        have h1 := hc.2.1
        have h3 := hc.2.2.2
        simp only [Nat.zero_add] at h1 h3
        rw [hpa, hin1.len, hpn] at h3
        rw [hsv] at h1
        exact ⟨h3, h1, After.keep hpc ⟨W, hW⟩⟩)
      have HSN := Lib.hid (show ((List.range (i + 1)).map fun j => timeI k cs j - k.card.start).map ints = ((List.range i).map fun j => timeI k cs j - k.card.start).map ints ++ [ints (tm - sv)] by
        rw [List.range_succ, List.map_append, List.map_append]
        simp [htm, HKP.out, hsv])
      have hai : (a : Int) < (pn : Int) := by omega
      have ha0 : (0 : Int) ≤ (a : Int) := by omega
      have hwr : IntKind.i64.wrap (tm - sv) = tm - sv := by rw [IntKind.wrap_i64]; omega
      have HO1 := Lib.hid (HO.out.below (Below.refl _ _).drew)
      have HOA := Lib.hid (HO1.out.alloc (.cells #[.int .i64 (tm - sv)] 3))
      have hB0 := Lib.hid HO.out.2
      have HSR := Lib.hid (show Src (wr.drew.alloc (.cells #[.int .i64 (tm - sv)] 3)) 1 (some ⟨wr.heap.size, 0, none⟩) 1 [ints (tm - sv)] from Src.lit wr.drew 3 (ints (tm - sv)) wr.drew.heap.size rfl rfl (ints_one _))
      have HLL := Lib.hid (show (((List.range i).map fun j => timeI k cs j - k.card.start).map ints).length + 1 ≤ 2147483648 by simp; omega)
      clear ha hfa hfl hfe hpa hpc hpt htm hsv hpn hin1 hst htb ha'
      go_wp2_with fail
      go_region_held3 (fun w' => w'.cell? ⟨w.heap.size, 3, none⟩ = some (.slice (some ⟨pb, po, none⟩) pn p.c) ∧ w'.cell? ⟨w.heap.size, 1, none⟩ = some (.int .i64 sv) ∧ w'.cell? ⟨pb, po + a * 2 + 1, none⟩ = some (.int .i64 tm)) (exact HS3.out _ (by repeat (first | (with_reducible exact hB4.out) | (with_reducible exact hB0.out) | (with_reducible refine Below.drew ?_) | (with_reducible refine below_alloc ?_ _))))
        (first
          | (refine tyInt.stepAppendR (by rfl) _ _ (by rfl) w1.heap.size u8 _ (by rfl) HOA.out.1 _ 1 1 _ (by rfl) HSR.out HLL.out HOA.out.2.size ?_; intro o4 w4 hrow4 hg4 hat4; have hB4 := Lib.hid (HOA.out.2.grown hg4 HOA.out.2.size (fun q hq => (HOA.out.1.lt q hq).1))))
      all_goals
        have HO4 := Lib.hid (show Own w1 3 1 w4 o4 (((List.range (i + 1)).map fun j => timeI k cs j - k.card.start).map ints) from ⟨by rw [HSN.out]; exact hrow4, hB4.out⟩)
        clear hrow4 hg4 hat4
        go_wp2_with fail
        go_roundw
        case rel => exact ⟨i + 1, by omega, by go_num, HO4.out⟩
        case measure => simp [intOf]; omega
    · obtain rfl : i = cs.length := by omega
      have hii : ¬ (cs.length : Int) < (cs.length : Int) := by omega
      go_wp2_with fail
      go_ret2
      exact ⟨_, rfl, HO.out.1.mono HB1.out.size, step_ HB1.out (Nat.le_refl _) HO.out.2⟩
end Go.Proofs.Ytojpklpfnmjikaa
