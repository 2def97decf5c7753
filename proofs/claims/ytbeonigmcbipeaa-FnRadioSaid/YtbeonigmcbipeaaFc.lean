/- The walks of the forecasts. No condition. -/
import Derived.Test.YtbeonigmcbipeaaFcQ
namespace Go.Proofs.Ytbeonigmcbipeaa
open Go Go.RowKit

theorem floorDiv_any (a b : Int) (w : World) (ha : 0 ≤ a) (ha' : a ≤ 4611686018427387904) (hb : 0 < b) (hb' : b ≤ 4611686018427387904) :
    Calls Try.prog 81 #[.int .i64 a, .int .i64 b] w fun e w' => e = .returned (.int .i64 (a / b)) ∧ w = w' := by
  have h0 : 0 ≤ a % b := Int.emod_nonneg _ (by omega)
  have h1 : ¬ a % b < 0 := by omega
  go_enter Try.func81, Try.ntmps81
  go_wp2
  go_ret
  exact ⟨rfl, rfl⟩

set_option maxRecDepth 100000 in
set_option maxHeartbeats 4000000 in
theorem forecast_any (xs : List Pas) (P : Nat) (p : Pas) (v : Value) (w : World) (h : PasS w v xs) (hin : p.In w) (hlen : xs.length ≤ 10) (hgd : ∀ p ∈ xs, OkK p.k) (hgp : OkK p.k) (h3 : P ≤ 3) :
    Calls Try.prog 65 #[v, .int .i64 P, p.val] w fun e w' => e = .returned (.tuple #[.int .i64 ((fcN (xs.map Pas.k) P p.k).getD 0), .bool (fcN (xs.map Pas.k) P p.k).isSome]) ∧ Below w.heap.size w w' := by
  have hpl := hin.len
  have HIN := Lib.hid hin
  have HSL := Lib.hid h
  have HGD := Lib.hid hgd
  have HGP := Lib.hid hgp
  obtain ⟨⟨r, sp⟩, A, n, c⟩ := p
  simp only at hpl
  subst hpl
  have hcn := Pas.cellsNew w ⟨⟨r, sp⟩, A, sp.length, c⟩ 49
  simp only at hcn
  have HCN := Lib.hid (fun s => (hcn s).2)
  show Calls Try.prog 65 #[v, .int .i64 P, .agg #[.int .i64 r, .slice A sp.length c]] w fun e w' => e = .returned (.tuple #[.int .i64 ((fcN (xs.map Pas.k) P ⟨r, sp⟩).getD 0), .bool (fcN (xs.map Pas.k) P ⟨r, sp⟩).isSome]) ∧ Below w.heap.size w w'
  have hW : Below w.heap.size w (w.alloc (.cells #[.int .i64 r, .slice A sp.length c] 49)) := below_alloc (Below.refl _ _) _
  clear h hin hgd hgp hcn
  go_enter Try.func65, Try.ntmps65
  go_wp2_with fail
  generalize w.alloc (.cells #[.int .i64 r, .slice A sp.length c] 49) = W at HCN hW ⊢
  have hWd : Below w.heap.size w W.drew := hW.drew
  have hdd : Below W.heap.size W W.drew := (Below.refl _ _).drew
  go_region_held3 (fun w' => w'.cell? ⟨w.heap.size, 1, none⟩ = some (.slice A sp.length c)) (first | exact HCN.out ⟨_, Below.refl _ _⟩ | exact HCN.out ⟨_, hdd⟩ | exact HCN.out ⟨_, step_ hdd (Nat.le_refl _) hb1⟩ | exact HCN.out ⟨_, hb1⟩)
    (first | (go_at_call 63; refine (splitOrder_any xs P _ _ (HSL.out.below (by first | exact hWd | exact hW)) hlen HGD.out h3).mono ?_; rintro e w1 ⟨o, rfl, row, hb1⟩))
  have hBW := step_ hdd (Nat.le_refl _) hb1
  have hB1 := step_ hW (Nat.le_refl _) hBW
  have HC1 := Lib.hid (show ∀ s : After w1, s.w'.cell? ⟨w.heap.size, 1, none⟩ = some (.slice A sp.length c) from fun s => HCN.out ⟨s.w', step_ hBW (Nat.le_refl _) s.hb⟩)
  have hc1 : w1.cell? ⟨w.heap.size, 1, none⟩ = some (.slice A sp.length c) := HC1.out ⟨w1, Below.refl _ _⟩
  have hps := PasS.of_row HSL.out hB1 row (fun x hx => (ordK_mem x hx).1)
  have hin1 := HIN.out.below hB1
  clear hdd hWd hb1 hBW HCN HIN hW
  by_cases hP : P < sp.length
  · have HV := Lib.hid (fc_at (ks := xs.map Pas.k) (P := P) (k := ⟨r, sp⟩) hP)
    obtain ⟨b1, o1, ha, hcell⟩ := Pas.look hin1 (P := P) hP
    simp only at ha
    subst ha
    have hcl := hcell ⟨w1, Below.refl _ _⟩
    simp only at hcl
    obtain ⟨t, ht⟩ : ∃ t, t = atP ⟨r, sp⟩ P := ⟨_, rfl⟩
    rw [← ht] at hcl HV
    clear hcell hps row ht hin1
    go_wp2
    go_ret2
    exact ⟨by (rw [HV.out] <;> rfl), hB1⟩
  have hP' : ¬ (P : Int) < (sp.length : Int) := by omega
  by_cases h0 : sp.length = 0
  · have HV := Lib.hid (fc_zero (ks := xs.map Pas.k) (P := P) (k := ⟨r, sp⟩) h0)
    have h0' : ((sp.length : Int) == 0) = true := by rw [beq_iff_eq]; omega
    obtain ⟨A2, c2, rfl, hc2, hm2⟩ := row.parts
    clear hps row hin1 h0
    go_wp2
    go_ret2
    exact ⟨by (rw [HV.out] <;> rfl), hB1⟩
  have h0' : ((sp.length : Int) == 0) = false := by rw [beq_eq_false_iff_ne]; omega
  have hn1 : 1 ≤ sp.length := by omega
  obtain ⟨l, hl⟩ : ∃ l, l = ordK (keyS P) P xs := ⟨_, rfl⟩
  have HMEM := Lib.hid (show ∀ x ∈ l, x ∈ xs ∧ P < x.k.splits.length from fun x hx => ordK_mem x (hl ▸ hx))
  rw [← hl] at row hps
  cases l with
  | nil =>
    have HV := Lib.hid (fc_nohead (xs := xs) (P := P) (k := ⟨r, sp⟩) hP (by rw [← hl]; rfl))
    obtain ⟨A2, c2, rfl, hc2, hm2⟩ := row.parts
    simp only [List.map_nil, List.length_nil] at hc2 ⊢
    clear hl hps row hin1 h0
    go_wp2
    go_ret2
    exact ⟨by (rw [HV.out] <;> rfl), hB1⟩
  | cons x rest =>
    have HV := Lib.hid (fc_lead (xs := xs) (P := P) (k := ⟨r, sp⟩) (x := x) hP h0 (by rw [← hl]; rfl))
    obtain ⟨hxm, hPx⟩ := HMEM.out x (by simp)
    have hokx := HGD.out x hxm
    have hin := hps.2 x (by simp)
    have hxl := hin.len
    obtain ⟨g, cap, rfl, hbg, hg, hcap⟩ := row.form (by simp)
    have hr := row.range (k := 0) (by simp)
    simp only [List.map_cons, List.getElem_cons_zero, Nat.zero_mul] at hr
    have hlen0 : ((((x :: rest).map Pas.lst).length : Int) == 0) = false := by rw [beq_eq_false_iff_ne]; simp; omega
    have hll : 0 < ((x :: rest).map Pas.lst).length := by simp
    obtain ⟨len, hlen⟩ : ∃ len, len = ((x :: rest).map Pas.lst).length := ⟨_, rfl⟩
    rw [← hlen] at hlen0 hll hcap ⊢
    have hcx := Pas.cells hr
    simp only [Nat.zero_add] at hcx
    obtain ⟨b1, o1, ha, hcell⟩ := Pas.look hin1 (P := sp.length - 1) (by simp only; omega)
    simp only at ha
    subst ha
    have hb1 := HGP.out (sp.length - 1) (by simp only; omega)
    obtain ⟨⟨rx, sx⟩, Ax, nx, cx⟩ := x
    simp only at hxl hPx hcx hokx HV
    subst hxl
    obtain ⟨bx, ox, hax, hsx⟩ := Pas.look hin (P := P) hPx
    simp only at hax hsx
    subst hax
    obtain ⟨bx2, ox2, hax2, hsy⟩ := Pas.look hin (P := sp.length - 1) (by simp only; omega)
    simp only [Option.some.injEq, Addr.mk.injEq, and_true] at hax2
    obtain ⟨rfl, rfl⟩ := hax2
    have hb2 := hokx P hPx
    have hb3 := hokx (sp.length - 1) (by simp only; omega)
    have hPl : sp.length - 1 < sx.length := by omega
    have hPl2 : (sp.length : Int) ≤ (sx.length : Int) := by omega
    have HFC := Lib.hid (show fcOf P ⟨r, sp⟩ ⟨rx, sx⟩ = (2 * atP ⟨r, sp⟩ (sp.length - 1) * atP ⟨rx, sx⟩ P + atP ⟨rx, sx⟩ (sp.length - 1)) / (2 * atP ⟨rx, sx⟩ (sp.length - 1)) from rfl)
    rw [HFC.out] at HV
    obtain ⟨a, ha⟩ : ∃ a, a = atP ⟨r, sp⟩ (sp.length - 1) := ⟨_, rfl⟩
    obtain ⟨b, hb⟩ : ∃ b, b = atP ⟨rx, sx⟩ P := ⟨_, rfl⟩
    obtain ⟨d, hd⟩ : ∃ d, d = atP ⟨rx, sx⟩ (sp.length - 1) := ⟨_, rfl⟩
    rw [← ha] at hcell hb1 HV
    rw [← hb] at hsx hb2 HV
    rw [← hd] at hsy hb3 HV
    have hpr := fc_prod hb1.1 hb1.2 hb2.1 hb2.2
    obtain ⟨hb11, hb12⟩ := hb1
    obtain ⟨hb21, hb22⟩ := hb2
    obtain ⟨hb31, hb32⟩ := hb3
    obtain ⟨hpr1, hpr2⟩ := hpr
    have hc1 := HC1.out
    clear hl hps row hlen hr ha hb hd hin1 hin h0 hP HMEM HGP HFC hokx
    go_wp2
    refine region_after (by kernel_rfl) (by kernel_rfl) ?_
    repeat (any_goals (first | go_big_quiet_step (((go_at_call 81; exact Calls.after_same (v := .int .i64 ((2 * a * b + d) / (2 * d))) _ (floorDiv_any _ _ _ (by omega) (by omega) (by omega) (by omega)))))  | quiet_step (((go_at_call 81; exact Calls.after_same (v := .int .i64 ((2 * a * b + d) / (2 * d))) _ (floorDiv_any _ _ _ (by omega) (by omega) (by omega) (by omega)))))))
    refine wpQuiet_nil ?_
    intro s
    go_wp2
    go_ret2
    exact ⟨by (rw [HV.out] <;> rfl), step_ hB1 (Nat.le_refl _) s.hb⟩

set_option maxRecDepth 100000 in
set_option maxHeartbeats 4000000 in
theorem l19Forecast_any (xs : List Pas) (P : Nat) (i : Nat) (v : Value) (w : World) (h : PasS w v xs) (hi : i < xs.length) (hgd : ∀ p ∈ xs, OkK p.k) (h3 : P ≤ 3) :
    Calls Try.prog 64 #[v, .int .i64 P, .int .i64 i] w fun e w' => e = .returned (.int .i64 (fcJ (fcN (xs.map Pas.k) P xs[i].k))) ∧ Below w.heap.size w w' := by
  have HSL := Lib.hid h
  have HI := Lib.hid h.2
  have HGD := Lib.hid hgd
  have hin := h.2 _ (List.getElem_mem hi)
  have hgp := hgd _ (List.getElem_mem hi)
  obtain ⟨A0, c0, rfl, hc, hm, hk⟩ := h.1.open_
  obtain ⟨b0, off, rfl, hat⟩ := flat_at hk (by omega)
  have HAT := Lib.hid hat
  have hcy := Pas.cellsOld (hat i hi)
  obtain ⟨p, hp⟩ : ∃ p, p = xs[i] := ⟨_, rfl⟩
  rw [← hp] at hin hgp hcy ⊢
  have hpl := hin.len
  clear h hgd hk hat hp
  obtain ⟨⟨r, sp⟩, A, n, c⟩ := p
  simp only at hpl hcy
  subst hpl
  have hcy0 := hcy ⟨w, Below.refl _ _⟩
  simp only at hcy0
  by_cases hP : P < sp.length
  · have HV := Lib.hid (fc_at (ks := xs.map Pas.k) (P := P) (k := ⟨r, sp⟩) hP)
    rw [HV.out]
    obtain ⟨b1, o1, ha, hcell⟩ := Pas.look hin (P := P) hP
    simp only at ha
    subst ha
    have hcl := hcell ⟨w, Below.refl _ _⟩
    simp only at hcl
    obtain ⟨t, ht⟩ : ∃ t, t = atP ⟨r, sp⟩ P := ⟨_, rfl⟩
    rw [← ht] at hcl ⊢
    clear hcell ht hin HV hcy hgp
    go_enter Try.func64, Try.ntmps64
    go_wp2
    go_ret
    exact ⟨rfl, Below.refl _ _⟩
  have hP' : ¬ (P : Int) < (sp.length : Int) := by omega
  have HLD := Lib.hid (l19Leader_any xs P _ w HSL.out h3)
  by_cases h0 : sp.length = 0
  · have HV := Lib.hid (fc_zero (ks := xs.map Pas.k) (P := P) (k := ⟨r, sp⟩) h0)
    rw [HV.out]
    have h0' : ((sp.length : Int) == 0) = true := by rw [beq_iff_eq]; omega
    clear hin HV h0 hcy hgp
    go_enter Try.func64, Try.ntmps64
    go_wp2_with (go_at_call 62; refine HLD.out.mono ?_; rintro e w1 ⟨bi, rfl, HL, hb1⟩)
    go_ret
    exact ⟨rfl, hb1⟩
  have h0' : ((sp.length : Int) == 0) = false := by rw [beq_eq_false_iff_ne]; omega
  have hn1 : 1 ≤ sp.length := by omega
  have HP := Lib.hid hP
  have HH0 := Lib.hid h0
  have HIN := Lib.hid hin
  have HGP := Lib.hid hgp
  clear h0 hP hin hgp
  go_enter Try.func64, Try.ntmps64
  go_wp2_with fail
  refine HLD.out.mono ?_
  rintro e w1 ⟨bi, rfl, HL, hb1⟩
  rcases HL with ⟨hnn, rfl⟩ | ⟨j, hj, rfl, hhd, hPj⟩
  · have HV := Lib.hid (fc_nohead (xs := xs) (P := P) (k := ⟨r, sp⟩) HP.out hnn)
    clear hnn
    go_wp2
    go_ret
    exact ⟨ret_int (by (rw [HV.out] <;> rfl)), hb1⟩
  have hj0 : ¬ ((j : Int) < 0) := by omega
  have HV := Lib.hid (fc_lead (xs := xs) (P := P) (k := ⟨r, sp⟩) HP.out HH0.out hhd)
  have HCY := Lib.hid (show ∀ s : After w1, s.w'.cell? ⟨b0, off + i * 2, none⟩ = some (.int .i64 r) ∧ s.w'.cell? ⟨b0, off + i * 2 + 1, none⟩ = some (.slice A sp.length c) from fun s => hcy ⟨s.w', step_ hb1 (Nat.le_refl _) s.hb⟩)
  have hcy1 := hcy ⟨w1, hb1⟩
  simp only at hcy1
  have hcx := Pas.cellsOld (rangeAt_below (HAT.out j hj) hb1)
  have hin1 := HIN.out.below hb1
  have hin := (HI.out _ (List.getElem_mem hj)).below hb1
  have hokx := HGD.out _ (List.getElem_mem hj)
  obtain ⟨x, hx⟩ : ∃ x, x = xs[j] := ⟨_, rfl⟩
  rw [← hx] at hcx hin hokx hPj HV
  have hxl := hin.len
  obtain ⟨b1, o1, ha, hcell⟩ := Pas.look hin1 (P := sp.length - 1) (by simp only; omega)
  simp only at ha
  subst ha
  have hb1' := HGP.out (sp.length - 1) (by simp only; omega)
  have HB1 := Lib.hid hb1
  clear hhd hcy hin1 hx hb1 hcy0
  obtain ⟨⟨rx, sx⟩, Ax, nx, cx⟩ := x
  simp only at hxl hPj hcx hokx HV
  subst hxl
  obtain ⟨bx, ox, hax, hsx⟩ := Pas.look hin (P := P) hPj
  simp only at hax hsx
  subst hax
  obtain ⟨bx2, ox2, hax2, hsy⟩ := Pas.look hin (P := sp.length - 1) (by simp only; omega)
  simp only [Option.some.injEq, Addr.mk.injEq, and_true] at hax2
  obtain ⟨rfl, rfl⟩ := hax2
  have hb2 := hokx P hPj
  have hb3 := hokx (sp.length - 1) (by simp only; omega)
  have hPl : sp.length - 1 < sx.length := by omega
  have hPl2 : (sp.length : Int) ≤ (sx.length : Int) := by omega
  have HFC := Lib.hid (show fcJ (some (fcOf P ⟨r, sp⟩ ⟨rx, sx⟩)) = (2 * atP ⟨r, sp⟩ (sp.length - 1) * atP ⟨rx, sx⟩ P + atP ⟨rx, sx⟩ (sp.length - 1)) / (2 * atP ⟨rx, sx⟩ (sp.length - 1)) from rfl)
  obtain ⟨a, ha⟩ : ∃ a, a = atP ⟨r, sp⟩ (sp.length - 1) := ⟨_, rfl⟩
  obtain ⟨b, hb⟩ : ∃ b, b = atP ⟨rx, sx⟩ P := ⟨_, rfl⟩
  obtain ⟨d, hd⟩ : ∃ d, d = atP ⟨rx, sx⟩ (sp.length - 1) := ⟨_, rfl⟩
  rw [← ha] at hcell hb1' HFC
  rw [← hb] at hsx hb2 HFC
  rw [← hd] at hsy hb3 HFC
  have hpr := fc_prod hb1'.1 hb1'.2 hb2.1 hb2.2
  obtain ⟨hb11, hb12⟩ := hb1'
  obtain ⟨hb21, hb22⟩ := hb2
  obtain ⟨hb31, hb32⟩ := hb3
  obtain ⟨hpr1, hpr2⟩ := hpr
  have hnd : 0 ≤ (2 * a * b + d) / (2 * d) := Int.ediv_nonneg (by omega) (by omega)
  clear ha hb hd hin hokx hnd
  go_wp2
  refine region_after (by kernel_rfl) (by kernel_rfl) ?_
  repeat (any_goals (first | go_big_quiet_step (fail)  | quiet_step (fail)))
  refine wpQuiet_nil ?_
  intro s
  have hcyt := HCY.out s
  have hcelt := hcell s
  go_wp2
  go_ret
  exact ⟨ret_int (by (rw [HV.out] <;> exact HFC.out.symm)), step_ HB1.out (Nat.le_refl _) s.hb⟩
end Go.Proofs.Ytbeonigmcbipeaa
