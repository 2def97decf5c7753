/- The walks of LeaderAt. -/
import Derived.Test.YtbeonigmcbipeaaLead
namespace Go.Proofs.Ytbeonigmcbipeaa
open Go Go.RowKit

theorem askP_place {ks : List PK} {p : Int} (h : askP ks p = true) : goodPs ks = true ∧ 0 ≤ p ∧ p ≤ 3 := by
  simp only [askP, Bool.and_eq_true] at h
  exact ⟨h.1, inB_iff.1 h.2⟩
theorem leadW_no {ks : List PK} {p : Int} (h : askP ks p = false) : leadW ks p = (0, 0, false) := by simp [leadW, h]
theorem leadW_none {xs : List Pas} {P : Nat} (h : (ordK (keyS P) P xs).head? = none) : leadW (xs.map Pas.k) P = (0, 0, false) := by
  unfold leadW leadV
  simp only [Int.toNat_natCast, head_none h]
  split <;> rfl
theorem leadW_some {xs : List Pas} {P : Nat} {x : Pas} (ha : askP (xs.map Pas.k) P = true) (h : (ordK (keyS P) P xs).head? = some x) : leadW (xs.map Pas.k) P = (x.k.runner, atP x.k P, true) := by
  unfold leadW leadV
  rw [if_pos ha]
  simp only [Int.toNat_natCast, head_map h]

set_option maxRecDepth 100000 in
set_option maxHeartbeats 4000000 in
theorem spec_LeaderAt (xs : List Pas) (ks : List PK) (v : Value) (p : Int) (w : World) (hks : xs.map Pas.k = ks) (h : PasS w v xs) (_ : I64 p) :
    Calls Try.prog 25 #[v, .int .i64 p] w fun e w' => e = .returned (.tuple #[.int .i64 (leadW ks p).1, .int .i64 (leadW ks p).2.1, .bool (leadW ks p).2.2]) ∧ Below w.heap.size w w' := by
  subst hks
  by_cases ha : askP (xs.map Pas.k) p = true
  rotate_left
  · have ha' : askP (xs.map Pas.k) p = false := by simpa using ha
    have HV := Lib.hid (leadW_no ha')
    rw [HV.out]
    have HQ := Lib.hid ha'
    clear ha ha'
    go_enter Try.func25, Try.ntmps25
    go_wp2_with (go_at_call 57; refine (l19Asked_any xs p _ _ h).mono ?_; rintro e w2 ⟨rfl, hb2⟩; rw [HQ.out])
    go_ret3
    exact ⟨rfl, hb2⟩
  obtain ⟨hg, hp0, hp3⟩ := askP_place ha
  obtain ⟨P, rfl⟩ : ∃ P : Nat, p = P := ⟨p.toNat, by omega⟩
  have hP3 : P ≤ 3 := by omega
  have HQ := Lib.hid ha
  have HSL := Lib.hid h
  clear ha hg hp0 hp3 h
  go_enter Try.func25, Try.ntmps25
  go_wp2_with fail
  refine (l19Asked_any xs P _ _ HSL.out).mono ?_
  rintro e w1 ⟨rfl, hb1⟩
  rw [HQ.out]
  go_wp2_with fail
  refine (l19Leader_any xs P _ _ (HSL.out.below hb1) hP3).mono ?_
  rintro e w2 ⟨bi, rfl, HL, hb2⟩
  have hB2 := step_ hb1 (Nat.le_refl _) hb2
  rcases HL with ⟨hn, rfl⟩ | ⟨i, hi, rfl, hhd, hPi⟩
  · have HV := Lib.hid (leadW_none hn)
    clear hn
    go_wp2
    go_ret3
    exact ⟨by (rw [HV.out] <;> rfl), hB2⟩
  have hi0 : ¬ ((i : Int) < 0) := by omega
  have HV := Lib.hid (leadW_some HQ.out hhd)
  have HHD := Lib.hid hhd
  clear hhd hPi hb1 hb2
  go_wp2_with fail
  refine (l19Leader_any xs P _ _ (HSL.out.below hB2) hP3).mono ?_
  rintro e w3 ⟨bj, rfl, HL, hb3⟩
  have hB3 := step_ hB2 (Nat.le_refl _) hb3
  rcases HL with ⟨hn, _⟩ | ⟨j, hj, rfl, hhj, hPj⟩
  · rw [HHD.out] at hn; cases hn
  have hxx : xs[i] = xs[j] := by rw [HHD.out] at hhj; simpa using hhj
  rw [hxx] at HV
  obtain ⟨A, c, hv, hc, hm, hk⟩ := HSL.out.1.open_
  obtain ⟨b, off, rfl, hat⟩ := flat_at hk (by omega)
  subst hv
  have hr := rangeAt_below (hat j hj) hB3
  have hin := (HSL.out.2 _ (List.getElem_mem hj)).below hB3
  obtain ⟨x, hx⟩ : ∃ x, x = xs[j] := ⟨_, rfl⟩
  rw [← hx] at HV hr hin hPj
  have hxl := hin.len
  clear hxx hhj hx hat hk hb3
  obtain ⟨⟨rx, sx⟩, Ax, nx, cx⟩ := x
  simp only at hxl hPj HV
  subst hxl
  have hW : Below w3.heap.size w3 (w3.alloc (.cells #[.int .i64 rx, .slice Ax sx.length cx] 49)) := below_alloc (Below.refl _ _) _
  obtain ⟨bx, ox, hax, hsx⟩ := Pas.look (hin.below hW) (P := P) hPj
  simp only at hax hsx
  subst hax
  have hcn := Pas.cellsNew w3 ⟨⟨rx, sx⟩, some ⟨bx, ox, none⟩, sx.length, cx⟩ 49
  simp only at hcn
  obtain ⟨t, ht⟩ : ∃ t, t = atP ⟨rx, sx⟩ P := ⟨_, rfl⟩
  rw [← ht] at hsx HV
  have HW := Lib.hid hW
  clear ht hin hW
  go_wp2_with ((with_reducible refine at_load_ 49 ?_); refine Pas.loadImpl rfl _ rfl b (off + j * 2) rfl _ hr ?_)
  refine region_after (by kernel_rfl) (by kernel_rfl) ?_
  repeat (any_goals (first | go_big_quiet_step (fail)  | quiet_step (fail)))
  refine wpQuiet_nil ?_
  intro s
  go_wp2
  go_ret3
  exact ⟨by (rw [HV.out] <;> rfl), step_ hB3 (Nat.le_refl _) (step_ HW.out (Nat.le_refl _) s.hb)⟩

set_option maxRecDepth 100000 in
set_option maxHeartbeats 4000000 in
theorem impl_LeaderAt (xs : List Pas) (ks : List PK) (v : Value) (p : Int) (w : World) (hks : xs.map Pas.k = ks) (h : PasS w v xs) (_ : I64 p) :
    Calls Try.prog 26 #[v, .int .i64 p] w fun e w' => e = .returned (.tuple #[.int .i64 (leadW ks p).1, .int .i64 (leadW ks p).2.1, .bool (leadW ks p).2.2]) ∧ Below w.heap.size w w' := by
  subst hks
  by_cases ha : askP (xs.map Pas.k) p = true
  rotate_left
  · have ha' : askP (xs.map Pas.k) p = false := by simpa using ha
    have HV := Lib.hid (leadW_no ha')
    rw [HV.out]
    have HQ := Lib.hid ha'
    clear ha ha'
    go_enter Try.func26, Try.ntmps26
    go_wp2_with (go_at_call 59; refine (isPlace_any xs p _ _ h).mono ?_; rintro e w2 ⟨rfl, hb2⟩; rw [HQ.out])
    go_ret3
    exact ⟨rfl, hb2⟩
  obtain ⟨hg, hp0, hp3⟩ := askP_place ha
  obtain ⟨P, rfl⟩ : ∃ P : Nat, p = P := ⟨p.toNat, by omega⟩
  have hP3 : P ≤ 3 := by omega
  have HGA := Lib.hid (good_at hg)
  have hlen := goodPs_len hg
  have HQ := Lib.hid ha
  have HSL := Lib.hid h
  clear ha hg hp0 hp3 h
  go_enter Try.func26, Try.ntmps26
  go_wp2_with fail
  refine (isPlace_any xs P _ _ HSL.out).mono ?_
  rintro e w1 ⟨rfl, hb1⟩
  rw [HQ.out]
  go_wp2_with fail
  refine (splitOrder_any xs P _ _ (HSL.out.below hb1) hlen HGA.out hP3).mono ?_
  rintro e w2 ⟨o, rfl, row, hb2⟩
  have hB2 := step_ hb1 (Nat.le_refl _) hb2
  have hps := PasS.of_row HSL.out hB2 row (fun x hx => (ordK_mem x hx).1)
  obtain ⟨l, hl⟩ : ∃ l, l = ordK (keyS P) P xs := ⟨_, rfl⟩
  have HMEM := Lib.hid (show ∀ x ∈ l, P < x.k.splits.length from fun x hx => (ordK_mem x (hl ▸ hx)).2)
  rw [← hl] at row hps
  cases l with
  | nil =>
    have HV := Lib.hid (leadW_none (xs := xs) (P := P) (by rw [← hl]; rfl))
    obtain ⟨A, c, rfl, hc, hm⟩ := row.parts
    simp only [List.map_nil, List.length_nil] at hc ⊢
    clear hl hps row
    go_wp2
    go_ret3
    exact ⟨by (rw [HV.out] <;> rfl), hB2⟩
  | cons x rest =>
    have HV := Lib.hid (leadW_some (xs := xs) (P := P) (x := x) HQ.out (by rw [← hl]; rfl))
    have hPx := HMEM.out x (by simp)
    have hin := hps.2 x (by simp)
    have hxl := hin.len
    obtain ⟨g, cap, rfl, hbg, hg, hcap⟩ := row.form (by simp)
    have hr := row.range (k := 0) (by simp)
    simp only [List.map_cons, List.getElem_cons_zero, Nat.zero_mul] at hr
    have hlen0 : ((((x :: rest).map Pas.lst).length : Int) == 0) = false := by rw [beq_eq_false_iff_ne]; simp; omega
    have hll : 0 < ((x :: rest).map Pas.lst).length := by simp
    obtain ⟨len, hlen⟩ : ∃ len, len = ((x :: rest).map Pas.lst).length := ⟨_, rfl⟩
    rw [← hlen] at hlen0 hll hcap ⊢
    have hcn := Pas.cellsOld hr
    simp only [Nat.zero_add] at hcn
    clear hl hps row hlen hb1 hb2 hr
    obtain ⟨⟨rx, sx⟩, Ax, nx, cx⟩ := x
    simp only at hxl hPx HV hcn
    subst hxl
    obtain ⟨bx, ox, hax, hsx⟩ := Pas.look hin (P := P) hPx
    simp only at hax hsx
    subst hax
    obtain ⟨t, ht⟩ : ∃ t, t = atP ⟨rx, sx⟩ P := ⟨_, rfl⟩
    rw [← ht] at hsx HV
    clear ht hin
    go_wp2
    refine region_after (by kernel_rfl) (by kernel_rfl) ?_
    repeat (any_goals (first | go_big_quiet_step (fail)  | quiet_step (fail)))
    refine wpQuiet_nil ?_
    intro s
    go_wp2
    go_ret3
    exact ⟨by (rw [HV.out] <;> rfl), step_ hB2 (Nat.le_refl _) s.hb⟩
end Go.Proofs.Ytbeonigmcbipeaa
