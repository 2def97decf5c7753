/- The walks of NotYetAt. No condition. -/
import Derived.Test.YtbeonigmcbipeaaXr
namespace Go.Proofs.Ytbeonigmcbipeaa
open Go Go.RowKit

theorem nyV_no {ks : List PK} {p t : Int} (h : (askP ks p && inB t 0 36000) = false) : nyV ks p t = [] := by
  unfold nyV
  rw [if_neg (by rw [← Bool.and_eq_true, h]; simp)]
theorem nyV_yes {ks : List PK} {P : Nat} {t : Int} (h : askP ks P = true) (h2 : inB t 0 36000 = true) : nyV ks P t = (ks.filter (nyB ks P t)).map PK.runner := by
  unfold nyV
  rw [if_pos ⟨h, h2⟩]
  simp only [Int.toNat_natCast]
def nyW (ks l : List PK) (P : Nat) (t : Int) : List (List Value) := ((l.filter (nyB ks P t)).map PK.runner).map ints
theorem nyW_step (ks l : List PK) (P : Nat) (t : Int) (k : Nat) (h : k < l.length) : nyW ks (l.take (k + 1)) P t = if nyB ks P t l[k] = true then nyW ks (l.take k) P t ++ [ints l[k].runner] else nyW ks (l.take k) P t := by
  unfold nyW
  rw [List.take_succ_eq_append_getElem h, List.filter_append]
  by_cases e : nyB ks P t l[k] = true
  · simp [e]
  · simp [e]
theorem nyW_len (ks l : List PK) (P : Nat) (t : Int) : (nyW ks l P t).length ≤ l.length := by
  unfold nyW
  simp only [List.length_map]
  exact List.length_filter_le _ _
theorem nyB_none {ks : List PK} {P : Nat} {s : Int} {q : PK} (h : fcN ks P q = none) : nyB ks P s q = false := by simp [nyB, fcB, h]
theorem nyB_some {ks : List PK} {P : Nat} {s t : Int} {q : PK} (h : fcN ks P q = some t) : nyB ks P s q = (decide (q.splits.length ≤ P) && decide (t < s)) := by simp [nyB, fcB, h]

set_option maxRecDepth 100000 in
set_option maxHeartbeats 4000000 in
theorem impl_NotYetAt (xs : List Pas) (ks : List PK) (v : Value) (p t : Int) (w : World) (hks : xs.map Pas.k = ks) (h : PasS w v xs) (hp : I64 p) (ht : I64 t) :
    Calls Try.prog 39 #[v, .int .i64 p, .int .i64 t] w fun e w' => ∃ o, e = .returned (.tuple #[o, .bool (askP ks p && inB t 0 36000)]) ∧ Row w.heap.size 3 1 w' o ((nyV ks p t).map ints) ∧ Below w.heap.size w w' := by
  subst hks
  have HSL := Lib.hid h
  by_cases ha : askP (xs.map Pas.k) p = true
  rotate_left
  · have ha' : askP (xs.map Pas.k) p = false := by simpa using ha
    have HB := Lib.hid (show (askP (xs.map Pas.k) p && inB t 0 36000) = false by simp [ha'])
    have HV := Lib.hid (nyV_no HB.out)
    have HQ := Lib.hid ha'
    rw [HV.out, HB.out]
    clear ha ha' h hp ht
    go_enter Try.func39, Try.ntmps39
    go_wp2_with (go_at_call 59; refine (isPlace_any xs p _ _ HSL.out).mono ?_; rintro e w2 ⟨rfl, hb2⟩; rw [HQ.out])
    go_ret2
    exact ⟨_, rfl, Row.nil _ _ _ _, hb2⟩
  by_cases hti : inB t 0 36000 = true
  rotate_left
  · have ht' : inB t 0 36000 = false := by simpa using hti
    have HB := Lib.hid (show (askP (xs.map Pas.k) p && inB t 0 36000) = false by simp [ht'])
    have HV := Lib.hid (nyV_no HB.out)
    have HQ := Lib.hid ha
    have HT := Lib.hid ht'
    rw [HV.out, HB.out]
    clear ha hti ht' h hp ht
    go_enter Try.func39, Try.ntmps39
    go_wp2_with (first
      | (go_at_call 59; refine (isPlace_any xs p _ _ HSL.out).mono ?_; rintro e w2 ⟨rfl, hb2⟩; rw [HQ.out])
      | (go_at_call 71; refine (isTime_any _ _).mono ?_; rintro e w3 ⟨rfl, rfl⟩; rw [HT.out]))
    go_ret2
    exact ⟨_, rfl, Row.nil _ _ _ _, hb2⟩
  have HB := Lib.hid (show (askP (xs.map Pas.k) p && inB t 0 36000) = true by simp [ha, hti])
  obtain ⟨hg, hp0, hp3⟩ := askP_place ha
  have HGA := Lib.hid (show ∀ p ∈ xs, OkK p.k from good_at hg)
  have hlen := goodPs_len hg
  obtain ⟨P, rfl⟩ : ∃ P : Nat, p = P := ⟨p.toNat, by omega⟩
  have hP3 : P ≤ 3 := by omega
  have HQ := Lib.hid ha
  have HT := Lib.hid hti
  have HV := Lib.hid (nyV_yes ha hti)
  have HI := Lib.hid h.2
  obtain ⟨A, c, rfl, hc, hm, hk⟩ := h.1.open_
  have HLM := Lib.hid (show (xs.map Pas.k).length = xs.length by simp)
  have HKK := Lib.hid (show ∀ k (h : k < xs.length) (h' : k < (xs.map Pas.k).length), (xs.map Pas.k)[k] = xs[k].k from fun k _ _ => by simp)
  rw [HV.out, HB.out]
  have hW0 : ((((xs.map Pas.k).filter (nyB (xs.map Pas.k) P t)).map PK.runner).map ints) = nyW (xs.map Pas.k) (xs.map Pas.k) P t := rfl
  rw [hW0]
  obtain ⟨ks, hks⟩ : ∃ ks, ks = xs.map Pas.k := ⟨_, rfl⟩
  have HKS := Lib.hid hks
  rw [← hks] at HLM HKK ⊢
  have htb := inB_iff.1 hti
  obtain ⟨ht0, ht3⟩ := htb
  clear hks hW0 HV HB ha hti hg hp0 hp3 h hp ht
  go_enter Try.func39, Try.ntmps39
  go_wp2_with (first
    | (go_at_call 59; refine (isPlace_any xs P _ _ HSL.out).mono ?_; rintro e w2 ⟨rfl, hb2⟩; rw [HQ.out])
    | (go_at_call 71; refine (isTime_any _ _).mono ?_; rintro e w3 ⟨rfl, rfl⟩; rw [HT.out]))
  have own0 : Own w 3 1 (w2.alloc (.cells #[] 3)) (.slice (some ⟨w2.heap.size, 0, none⟩) 0 0) [] := Own.nil hb2 _ rfl
  go_loopw [8, 25] (fun s i wr => ∃ k : Nat, k ≤ xs.length ∧ i = .int .i64 k ∧ Own w 3 1 wr s (nyW ks (ks.take k) P t))
    (fun _ i _ => xs.length - (intOf i).toNat)
  case atStart => exact ⟨0, Nat.zero_le _, rfl, own0⟩
  case round =>
    clear own0 hb2
    obtain ⟨k, hkl, rfl, own⟩ := hrel
    by_cases hlt : k < xs.length
    · obtain ⟨b, off, rfl, hat⟩ := flat_at hk (by omega)
      have hkk : k < ks.length := by rw [HLM.out]; exact hlt
      have HLL := Lib.hid (show (nyW ks (ks.take k) P t).length + 1 ≤ 2147483648 by have := nyW_len ks (ks.take k) P t; have := HLM.out; simp at *; omega)
      have hS := nyW_step ks ks P t k hkk
      rw [HKK.out k hlt hkk] at hS
      have HS := Lib.hid hS
      obtain ⟨cur, hcur⟩ : ∃ cur, cur = nyW ks (ks.take k) P t := ⟨_, rfl⟩
      rw [← hcur] at HS HLL own
      have hb := own.2
      have hr := rangeAt_below (hat k hlt) hb
      have HIN := Lib.hid (HI.out _ (List.getElem_mem hlt))
      have HOK := Lib.hid (HGA.out _ (List.getElem_mem hlt))
      obtain ⟨x, hx⟩ : ∃ x, x = xs[k] := ⟨_, rfl⟩
      rw [← hx] at hr HIN HOK HS
      have hxl := HIN.out.len
      have hrn := Pas.rangeNew wr x 49
      have hcx := Pas.cellsNew wr x 49
      have hBn := step_ hb (Nat.le_refl _) (below_alloc (Below.refl _ _) (.cells #[.int .i64 x.k.runner, .slice x.a x.n x.c] 49))
      have HB := Lib.hid hBn
      have HOW := Lib.hid (own.alloc (.cells #[.int .i64 x.k.runner, .slice x.a x.n x.c] 49))
      have HCX := Lib.hid hcx
      clear hcur hx hb hat hk hS own hcx hBn
      cases hf : fcN ks P x.k with
      | none =>
        have HE := Lib.hid (nyB_none (s := t) hf)
        rw [HE.out, if_neg (by simp)] at HS
        have HF := Lib.hid hf
        clear hf hxl
        go_wp2_with (first
          | ((with_reducible refine at_load_ 49 ?_); refine Pas.loadImpl rfl _ rfl b (off + k * 2) rfl _ hr ?_)
          | ((with_reducible refine at_load_ 49 ?_); refine Pas.loadImpl rfl _ rfl wr.heap.size 0 rfl _ hrn ?_)
          | (go_at_call 65; refine (forecast_any xs P x _ _ (HSL.out.below HB.out) (HIN.out.below HB.out) hlen HGA.out HOK.out hP3).mono ?_; rw [← HKS.out, HF.out]; rintro e w3 ⟨rfl, hb3⟩))
        have HO3 := Lib.hid (HOW.out.below hb3)
        go_roundw
        case rel => exact ⟨k + 1, by omega, by go_num, by rw [HS.out]; exact HO3.out⟩
        case measure => simp [intOf]; omega
      | some d =>
        have hE := nyB_some (s := t) hf
        have HF := Lib.hid hf
        obtain ⟨⟨rx, sx⟩, Ax, nx, cx⟩ := x
        simp only at hxl hE
        subst hxl
        clear hf
        by_cases hds : sx.length ≤ P ∧ d < t
        · have hE' : nyB ks P t ⟨rx, sx⟩ = true := by rw [hE]; simp [hds]
          simp only at HS
          rw [hE', if_pos rfl] at HS
          obtain ⟨hd1, hd2⟩ := hds
          clear hE hE'
          go_wp2_with (first
            | ((with_reducible refine at_load_ 49 ?_); refine Pas.loadImpl rfl _ rfl b (off + k * 2) rfl _ hr ?_)
            | ((with_reducible refine at_load_ 49 ?_); refine Pas.loadImpl rfl _ rfl wr.heap.size 0 rfl _ hrn ?_)
            | (go_at_call 65; refine (forecast_any xs P _ _ _ (HSL.out.below HB.out) (HIN.out.below HB.out) hlen HGA.out HOK.out hP3).mono ?_; rw [← HKS.out, HF.out]; rintro e w3 ⟨rfl, hb3⟩
               have hc3 := HCX.out ⟨w3, hb3⟩
               simp only at hc3
               have HO3 := Lib.hid (HOW.out.below hb3))
            | (at_builtin; refine tyInt.append rfl _ _ rfl w.heap.size _ _ rfl (HO3.out.alloc _).1 _ 1 1 [ints rx] rfl (Src.lit _ _ (ints rx) _ (by simp) rfl (ints_one _)) HLL.out (by simp; have := HO3.out.2.size; omega) ?_; intro o4 w4 hrow4 hg4 _))
          have HB4 := Lib.hid ((HO3.out.alloc (.cells #[.int .i64 rx] 3)).2.grown hg4 (HO3.out.alloc (.cells #[.int .i64 rx] 3)).2.size (fun q hq => (HO3.out.1.lt q hq).1))
          go_roundw
          case rel => exact ⟨k + 1, by omega, by go_num, by rw [HS.out]; exact ⟨hrow4, HB4.out⟩⟩
          case measure => simp [intOf]; omega
        · have hE' : nyB ks P t ⟨rx, sx⟩ = false := by rw [hE]; simp only [Bool.and_eq_false_iff, decide_eq_false_iff_not]; omega
          simp only at HS
          rw [hE', if_neg (by simp)] at HS
          clear hE hE'
          by_cases hd1 : sx.length ≤ P
          · have hd2 : ¬ d < t := fun h => hds ⟨hd1, h⟩
            clear hds
            go_wp2_with (first
              | ((with_reducible refine at_load_ 49 ?_); refine Pas.loadImpl rfl _ rfl b (off + k * 2) rfl _ hr ?_)
              | ((with_reducible refine at_load_ 49 ?_); refine Pas.loadImpl rfl _ rfl wr.heap.size 0 rfl _ hrn ?_)
              | (go_at_call 65; refine (forecast_any xs P _ _ _ (HSL.out.below HB.out) (HIN.out.below HB.out) hlen HGA.out HOK.out hP3).mono ?_; rw [← HKS.out, HF.out]; rintro e w3 ⟨rfl, hb3⟩
                 have hc3 := HCX.out ⟨w3, hb3⟩
                 simp only at hc3
                 have HO3 := Lib.hid (HOW.out.below hb3)))
            go_roundw
            case rel => exact ⟨k + 1, by omega, by go_num, by rw [HS.out]; exact HO3.out⟩
            case measure => simp [intOf]; omega
          · clear hds
            go_wp2_with (first
              | ((with_reducible refine at_load_ 49 ?_); refine Pas.loadImpl rfl _ rfl b (off + k * 2) rfl _ hr ?_)
              | ((with_reducible refine at_load_ 49 ?_); refine Pas.loadImpl rfl _ rfl wr.heap.size 0 rfl _ hrn ?_)
              | (go_at_call 65; refine (forecast_any xs P _ _ _ (HSL.out.below HB.out) (HIN.out.below HB.out) hlen HGA.out HOK.out hP3).mono ?_; rw [← HKS.out, HF.out]; rintro e w3 ⟨rfl, hb3⟩
                 have hc3 := HCX.out ⟨w3, hb3⟩
                 simp only at hc3
                 have HO3 := Lib.hid (HOW.out.below hb3)))
            go_roundw
            case rel => exact ⟨k + 1, by omega, by go_num, by rw [HS.out]; exact HO3.out⟩
            case measure => simp [intOf]; omega
    · go_wp2
      go_ret2
      obtain rfl : k = xs.length := by omega
      rw [← HLM.out, List.take_length] at own
      exact ⟨_, rfl, own.1, own.2⟩

set_option maxRecDepth 100000 in
set_option maxHeartbeats 4000000 in
theorem spec_NotYetAt (xs : List Pas) (ks : List PK) (v : Value) (p t : Int) (w : World) (hks : xs.map Pas.k = ks) (h : PasS w v xs) (hp : I64 p) (ht : I64 t) :
    Calls Try.prog 38 #[v, .int .i64 p, .int .i64 t] w fun e w' => ∃ o, e = .returned (.tuple #[o, .bool (askP ks p && inB t 0 36000)]) ∧ Row w.heap.size 3 1 w' o ((nyV ks p t).map ints) ∧ Below w.heap.size w w' := by
  subst hks
  have HSL := Lib.hid h
  have own0 : Own w 3 1 (w.alloc (.cells #[] 3)) (.slice (some ⟨w.heap.size, 0, none⟩) 0 0) [] := Own.nil (Below.refl _ _) _ rfl
  by_cases ha : askP (xs.map Pas.k) p = true
  rotate_left
  · have ha' : askP (xs.map Pas.k) p = false := by simpa using ha
    have HB := Lib.hid (show (askP (xs.map Pas.k) p && inB t 0 36000) = false by simp [ha'])
    have HV := Lib.hid (nyV_no HB.out)
    have HQ := Lib.hid ha'
    rw [HV.out, HB.out]
    clear ha ha' h hp ht
    go_enter Try.func38, Try.ntmps38
    go_wp2_with (go_at_call 57; refine (l19Asked_any xs p _ _ (HSL.out.below own0.2)).mono ?_; rintro e w2 ⟨rfl, hb2⟩; rw [HQ.out])
    go_ret2
    exact ⟨_, rfl, (own0.below hb2).1, (own0.below hb2).2⟩
  by_cases hti : inB t 0 36000 = true
  rotate_left
  · have ht' : inB t 0 36000 = false := by simpa using hti
    have HB := Lib.hid (show (askP (xs.map Pas.k) p && inB t 0 36000) = false by simp [ht'])
    have HV := Lib.hid (nyV_no HB.out)
    have HQ := Lib.hid ha
    have HT := Lib.hid ht'
    rw [HV.out, HB.out]
    clear ha hti ht' h hp ht
    go_enter Try.func38, Try.ntmps38
    go_wp2_with (first
      | (go_at_call 57; refine (l19Asked_any xs p _ _ (HSL.out.below own0.2)).mono ?_; rintro e w2 ⟨rfl, hb2⟩; rw [HQ.out])
      | (go_at_call 70; refine (l12Time_any _ _).mono ?_; rintro e w3 ⟨rfl, rfl⟩; rw [HT.out]))
    go_ret2
    exact ⟨_, rfl, (own0.below hb2).1, (own0.below hb2).2⟩
  have HB := Lib.hid (show (askP (xs.map Pas.k) p && inB t 0 36000) = true by simp [ha, hti])
  obtain ⟨hg, hp0, hp3⟩ := askP_place ha
  have HGA := Lib.hid (show ∀ p ∈ xs, OkK p.k from good_at hg)
  have hlen := goodPs_len hg
  obtain ⟨P, rfl⟩ : ∃ P : Nat, p = P := ⟨p.toNat, by omega⟩
  have hP3 : P ≤ 3 := by omega
  have HQ := Lib.hid ha
  have HT := Lib.hid hti
  have HV := Lib.hid (nyV_yes ha hti)
  have HI := Lib.hid h.2
  obtain ⟨A, c, rfl, hc, hm, hk⟩ := h.1.open_
  have HLM := Lib.hid (show (xs.map Pas.k).length = xs.length by simp)
  have HKK := Lib.hid (show ∀ k (h : k < xs.length) (h' : k < (xs.map Pas.k).length), (xs.map Pas.k)[k] = xs[k].k from fun k _ _ => by simp)
  have HFC := Lib.hid (fun (j : Nat) (hj : j < xs.length) W (hW : Below w.heap.size w W) => l19Forecast_any xs P j _ W (HSL.out.below hW) hj HGA.out hP3)
  have HNN := Lib.hid (fun k (hk : k < xs.length) t => fc_nonneg (xs := xs) (P := P) (t := t) HGA.out (HGA.out _ (List.getElem_mem hk)))
  rw [HV.out, HB.out]
  have hW0 : ((((xs.map Pas.k).filter (nyB (xs.map Pas.k) P t)).map PK.runner).map ints) = nyW (xs.map Pas.k) (xs.map Pas.k) P t := rfl
  rw [hW0]
  obtain ⟨ks, hks⟩ : ∃ ks, ks = xs.map Pas.k := ⟨_, rfl⟩
  rw [← hks] at HLM HKK HFC HNN ⊢
  have htb := inB_iff.1 hti
  obtain ⟨ht0, ht3⟩ := htb
  clear hks hW0 HV HB ha hti hg hp0 hp3 h hp ht
  have HT1 := Lib.hid (show ∀ t, fcJ (some t) = t from fun t => rfl)
  have HT2 := Lib.hid (show fcJ none = -1 from rfl)
  have HO0 := Lib.hid own0
  clear own0
  go_enter Try.func38, Try.ntmps38
  go_wp2_with (first
    | (go_at_call 57; refine (l19Asked_any xs P _ _ (HSL.out.below HO0.out.2)).mono ?_; rintro e w2 ⟨rfl, hb2⟩; rw [HQ.out]; have HO2 := Lib.hid (HO0.out.below hb2))
    | (go_at_call 70; refine (l12Time_any _ _).mono ?_; rintro e w3 ⟨rfl, rfl⟩; rw [HT.out]))
  clear hb2
  go_loopw [8, 9] (fun s i wr => ∃ k : Nat, k ≤ xs.length ∧ i = .int .i64 k ∧ Own w 3 1 wr s (nyW ks (ks.take k) P t))
    (fun _ i _ => xs.length - (intOf i).toNat)
  case atStart => exact ⟨0, Nat.zero_le _, rfl, HO2.out⟩
  case round =>
    clear HO2 HO0
    obtain ⟨k, hkl, rfl, own⟩ := hrel
    by_cases hlt : k < xs.length
    · obtain ⟨b, off, rfl, hat⟩ := flat_at hk (by omega)
      have hkk : k < ks.length := by rw [HLM.out]; exact hlt
      have HLL := Lib.hid (show (nyW ks (ks.take k) P t).length + 1 ≤ 2147483648 by have := nyW_len ks (ks.take k) P t; have := HLM.out; simp at *; omega)
      have hS := nyW_step ks ks P t k hkk
      rw [HKK.out k hlt hkk] at hS
      have HS := Lib.hid hS
      obtain ⟨cur, hcur⟩ : ∃ cur, cur = nyW ks (ks.take k) P t := ⟨_, rfl⟩
      rw [← hcur] at HS HLL own
      have hb := own.2
      have hcn := Pas.cellsOld (rangeAt_below (hat k hlt) hb)
      have HIN := Lib.hid (HI.out _ (List.getElem_mem hlt))
      have hFK := HFC.out k hlt _ hb
      have hNK := HNN.out k hlt
      obtain ⟨x, hx⟩ : ∃ x, x = xs[k] := ⟨_, rfl⟩
      rw [← hx] at hcn HIN HS hFK hNK
      have hxl := HIN.out.len
      have HFK := Lib.hid hFK
      have HNK := Lib.hid hNK
      have HOW := Lib.hid own
      have HCX := Lib.hid hcn
      clear hcur hx hb hat hk hS own hcn hFK hNK
      obtain ⟨⟨rx, sx⟩, Ax, nx, cx⟩ := x
      simp only at hxl HS HCX HFK HNK
      subst hxl
      cases hf : fcN ks P ⟨rx, sx⟩ with
      | none =>
        have HE := Lib.hid (nyB_none (s := t) hf)
        rw [HE.out, if_neg (by simp)] at HS
        rw [hf, HT2.out] at HFK
        clear hf
        by_cases hd1 : sx.length ≤ P
        all_goals
          go_wp2_with (go_at_call 64; refine HFK.out.mono ?_; rintro e w3 ⟨rfl, hb3⟩
                       have hc3 := HCX.out ⟨w3, hb3⟩
                       simp only at hc3
                       have HO3 := Lib.hid (HOW.out.below hb3))
          go_roundw
          case rel => exact ⟨k + 1, by omega, by go_num, by rw [HS.out]; exact HO3.out⟩
          case measure => simp [intOf]; omega
      | some d =>
        have hE := nyB_some (s := t) hf
        have hd0 := HNK.out d hf
        rw [hf, HT1.out] at HFK
        simp only at hE
        clear hf
        by_cases hds : sx.length ≤ P ∧ d < t
        · have hE' : nyB ks P t ⟨rx, sx⟩ = true := by rw [hE]; simp [hds]
          rw [hE', if_pos rfl] at HS
          obtain ⟨hd1, hd2⟩ := hds
          clear hE hE'
          go_wp2_with (first
            | (go_at_call 64; refine HFK.out.mono ?_; rintro e w3 ⟨rfl, hb3⟩
               have hc3 := HCX.out ⟨w3, hb3⟩
               simp only at hc3
               have HO3 := Lib.hid (HOW.out.below hb3))
            | (at_builtin; refine tyInt.append rfl _ _ rfl w.heap.size _ _ rfl (HO3.out.alloc _).1 _ 1 1 [ints rx] rfl (Src.lit _ _ (ints rx) _ (by simp) rfl (ints_one _)) HLL.out (by simp; have := HO3.out.2.size; omega) ?_; intro o4 w4 hrow4 hg4 _))
          have HB4 := Lib.hid ((HO3.out.alloc (.cells #[.int .i64 rx] 3)).2.grown hg4 (HO3.out.alloc (.cells #[.int .i64 rx] 3)).2.size (fun q hq => (HO3.out.1.lt q hq).1))
          go_roundw
          case rel => exact ⟨k + 1, by omega, by go_num, by rw [HS.out]; exact ⟨hrow4, HB4.out⟩⟩
          case measure => simp [intOf]; omega
        · have hE' : nyB ks P t ⟨rx, sx⟩ = false := by rw [hE]; simp only [Bool.and_eq_false_iff, decide_eq_false_iff_not]; omega
          rw [hE', if_neg (by simp)] at HS
          clear hE hE'
          by_cases hd1 : sx.length ≤ P
          · have hd2 : ¬ d < t := fun h => hds ⟨hd1, h⟩
            clear hds
            go_wp2_with (go_at_call 64; refine HFK.out.mono ?_; rintro e w3 ⟨rfl, hb3⟩
                         have hc3 := HCX.out ⟨w3, hb3⟩
                         simp only at hc3
                         have HO3 := Lib.hid (HOW.out.below hb3))
            go_roundw
            case rel => exact ⟨k + 1, by omega, by go_num, by rw [HS.out]; exact HO3.out⟩
            case measure => simp [intOf]; omega
          · clear hds
            go_wp2_with (go_at_call 64; refine HFK.out.mono ?_; rintro e w3 ⟨rfl, hb3⟩
                         have hc3 := HCX.out ⟨w3, hb3⟩
                         simp only at hc3
                         have HO3 := Lib.hid (HOW.out.below hb3))
            go_roundw
            case rel => exact ⟨k + 1, by omega, by go_num, by rw [HS.out]; exact HO3.out⟩
            case measure => simp [intOf]; omega
    · go_wp2
      go_ret2
      obtain rfl : k = xs.length := by omega
      rw [← HLM.out, List.take_length] at own
      exact ⟨_, rfl, own.1, own.2⟩
end Go.Proofs.Ytbeonigmcbipeaa
