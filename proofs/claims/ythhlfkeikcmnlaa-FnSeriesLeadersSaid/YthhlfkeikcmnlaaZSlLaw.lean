/- The walk of the law FnSeriesLeaders: it returns true. No condition. -/
import Derived.Test.YthhlfkeikcmnlaaZNeedBSrQ
import Derived.Test.YthhlfkeikcmnlaaZDrSd
import Derived.Test.YthhlfkeikcmnlaaZByte
import Derived.Test.YthhlfkeikcmnlaaZStdA
import Derived.Test.YthhlfkeikcmnlaaZSerRank
import Derived.Test.YthhlfkeikcmnlaaZNeedJ
import Derived.Test.YthhlfkeikcmnlaaZNeedK
import Derived.Test.YthhlfkeikcmnlaaZWonS
import Derived.Test.YthhlfkeikcmnlaaZAddScore
import Derived.Deep.DeepCutAuto
import Derived.Deep.CutBlock
namespace Go.Proofs.Ythhlfkeikcmnlaa
open Go Go.RowKit

theorem near_i64 {x : Int} (h : NearI x) : I64 x := by unfold I64; omega
theorem drawn_ok {ps : List Score} (h : ∀ p ∈ ps, DrawnS p) : ∀ p ∈ ps, Score.ok p := fun p hp => (h p hp).ok
theorem asOut_ok {n m : Int} {xs : List Score} {s : Score} (h : ∀ p ∈ xs, Score.ok p) (hs : Score.ok s) : ∀ p ∈ asOut n m xs s, Score.ok p := by
  intro p hp
  unfold asOut at hp
  split at hp
  · rcases List.mem_cons.1 ((addS_perm xs s).mem_iff.1 hp) with rfl | hp
    · exact hs
    · exact h p hp
  · simp at hp
theorem asOk_of {n m : Int} {xs : List Score} {s : Score} (h1 : goodS n m xs = true) (h2 : goodS n m (addS xs s) = true) : asOk n m xs s = true ∧ asOut n m xs s = addS xs s := by
  have : asOk n m xs s = true := by simp [asOk, h1, h2]
  exact ⟨this, by simp [asOut, this]⟩
/-- What the points that are needed do, for the walk. -/
theorem more_facts {n m : Int} {xs : List Score} {r race : Int} (hb : needB n m xs r race = true) (more : List Score) (hm : asOut n m xs ⟨r, race, needV n m xs r race⟩ = more) (l : List Int) (hl : stdV n m more = l) :
    asOk n m xs ⟨r, race, needV n m xs r race⟩ = true ∧ goodS n m more = true ∧ (∃ h0 : 0 < l.length, l[0] = r) ∧ (∀ h1 : 1 < l.length, askS n m more l[1] = true ∧ rankV n m more l[1] = 2 ∧ I64 l[1]) ∧ 0 ≤ needV n m xs r race ∧ needV n m xs r race ≤ 1000 := by
  obtain ⟨g2, g1, hr, hlead, v0, v1⟩ := need_more hb
  obtain ⟨a1, a2⟩ := asOk_of g1 g2
  rw [a2] at hm
  subst hm
  rw [stdV_eq g2] at hl
  subst hl
  refine ⟨a1, g2, lead_first g2 hr hlead, fun h1 => ⟨ask_of_mem g2 (List.getElem_mem h1), lead_second g2 hr hlead h1, ?_⟩, v0, v1⟩
  have := stdL_bd g2 _ (List.getElem_mem h1)
  unfold I64; omega
theorem less_facts {n m : Int} {xs : List Score} {r race : Int} (hb : needB n m xs r race = true) (less : List Score) (hm : asOut n m xs ⟨r, race, needV n m xs r race - 1⟩ = less) (l : List Int) (hl : stdV n m less = l) :
    asOk n m xs ⟨r, race, needV n m xs r race - 1⟩ = true → goodS n m less = true ∧ (∀ h0 : 0 < l.length, l[0] = r → ∃ h1 : 1 < l.length, askS n m less l[1] = true ∧ rankV n m less l[1] = 1 ∧ I64 l[1]) := by
  intro ha
  have hv : 1 ≤ needV n m xs r race := by
    by_cases h : 1 ≤ needV n m xs r race
    · exact h
    · have := bad_neg (n := n) (m := m) (xs := xs) (r := r) (race := race) (p := needV n m xs r race - 1) (by omega)
      simp [asOk, this] at ha
  obtain ⟨g2, a, ha1, ha2, ha3⟩ := need_less hb hv
  obtain ⟨g1, -, -, -⟩ := need_more hb |>.2
  obtain ⟨-, a2⟩ := asOk_of g1 g2
  rw [a2] at hm
  subst hm
  rw [stdV_eq g2] at hl
  subst hl
  refine ⟨g2, fun h0 hf => ?_⟩
  obtain ⟨h1, h2⟩ := less_first g2 h0 hf ha1 ha2 ha3
  refine ⟨h1, ask_of_mem g2 (List.getElem_mem h1), h2, ?_⟩
  have := stdL_bd g2 _ (List.getElem_mem h1)
  unfold I64; omega
set_option maxHeartbeats 1000000 in
theorem rScores_refl (ps : List Score) (v v' : Value) (w : World) (h : Sl (Flat Score.lst) 3 w v ps) (h' : Sl (Flat Score.lst) 3 w v' ps) :
    Calls Try.prog 46 #[v, v'] w fun e w' => e = .returned (.bool true) ∧ Below w.heap.size w w' := by
  obtain ⟨A, c, rfl, hc, hm, hk⟩ := h.open_
  obtain ⟨A', c', rfl, hc', hm', hk'⟩ := h'.open_
  clear h h'
  go_enter Try.func46, Try.ntmps46
  go_wp2
  go_loopw [5] (fun i wr => ∃ k : Nat, k ≤ ps.length ∧ i = .int .i64 k ∧ Below w.heap.size w wr)
    (fun i _ => ps.length - (intOf i).toNat)
  case atStart => exact ⟨0, Nat.zero_le _, rfl, Below.refl _ _⟩
  case round =>
    obtain ⟨k, hkl, rfl, hb⟩ := hrel
    by_cases hlt : k < ps.length
    · obtain ⟨b, off, rfl, hat⟩ := flat_at hk (by omega)
      obtain ⟨b', off', rfl, hat'⟩ := flat_at hk' (by omega)
      have hr := rangeAt_below (hat k hlt) hb
      have hr' := rangeAt_below (hat' k hlt) hb
      clear hat hat' hk hk'
      generalize ps[k] = p at hr hr'
      obtain ⟨b0, b1, b2⟩ := p
      go_wp2
      refine region_after (by kernel_rfl) (by kernel_rfl) ?_
      repeat (any_goals (first | go_big_quiet_step (fail) | (refine Score.qloadImpl rfl _ rfl b (off + k * 3) rfl ⟨b0, b1, b2⟩ hr ?_) | (refine Score.qloadImpl rfl _ rfl b' (off' + k * 3) rfl ⟨b0, b1, b2⟩ hr' ?_) | quiet_step (fail) | (refine wpQuiet_step (fun K hK => ?_); go_simp; split <;> (refine hK _ ?_; clear hK K))))
      all_goals (refine wpQuiet_nil ?_; intro s)
      go_wp2
      go_roundw
      case rel => exact ⟨k + 1, by omega, by go_num, step_ hb (Nat.le_refl _) s.hb⟩
      case measure => simp [intOf]; omega
    · go_wp2
      go_ret
      exact ⟨rfl, hb⟩
theorem first_cell {w : World} {o : Value} {l : List Int} (h : Sl (Flat ints) 1 w o l) {k : Nat} (hk : k < l.length) : ∃ b off c, o = .slice (some ⟨b, off, none⟩) l.length c ∧ l.length ≤ c ∧ c ≤ 9223372036854775807 ∧ ∀ W, Below w.heap.size w W → W.cell? ⟨b, off + k, none⟩ = some (.int .i64 l[k]) := by
  obtain ⟨A, c, rfl, hc, hm, hk1⟩ := h.open_
  obtain ⟨b, off, rfl, hat⟩ := flat_at hk1 (by omega)
  refine ⟨b, off, c, rfl, hc, hm, fun W hW => ?_⟩
  have := After.keep (int_at (hat k hk)) ⟨W, hW⟩
  rwa [Nat.mul_one] at this
set_option maxRecDepth 100000 in
set_option maxHeartbeats 8000000 in
theorem fnSeriesLeaders_walk (v0 : Value) (m : Nat) (w : World) (h0 : CodeS w v0 m) :
    Calls Try.prog 12 #[v0] w fun e w' => e = .returned (.bool true) ∧ Below w.heap.size w w' := by
  obtain ⟨q, hq⟩ : ∃ q, q = decide (65536 < m) := ⟨_, rfl⟩
  have HC := Lib.hid h0
  have HV := Lib.hid (rBig_any v0 m q w h0 hq)
  have HB := Lib.hid (Below.refl w.heap.size w)
  clear hq h0
  cases q with
  | true =>
    go_enter Try.func12, Try.ntmps12
    go_wp2_with fail
    refine (HV.out).mono ?_
    rintro e w' ⟨rfl, hb⟩
    replace HB := Lib.hid (step_ HB.out (Nat.le_refl _) hb)
    go_wp2_with fail
    go_ret
    exact ⟨rfl, HB.out⟩
  | false =>
    go_enter Try.func12, Try.ntmps12
    go_wp2_with fail
    refine (HV.out).mono ?_
    rintro e w' ⟨rfl, hb⟩
    replace HB := Lib.hid (step_ HB.out (Nat.le_refl _) hb)
    clear hb HV
    go_wp2_with fail
    refine (draw_NeededToLead v0 m _ (HC.out.below HB.out)).mono ?_
    rintro e w' ⟨r, b, v, a, y, x, rfl, hr, hbb, ha, hy, hs, hl, hd, hb⟩
    replace HB := Lib.hid (step_ HB.out (Nat.le_refl _) hb)
    have HS := Lib.hid hs
    have HI := Lib.hid (show ∀ W, Sl (Flat Score.lst) 3 W v x → _ from fun W hW => impl_NeededToLead r b x v a y W (near_i64 hr) (near_i64 hbb) hW (drawn_ok hd) (near_i64 ha) (near_i64 hy))
    have HJ := Lib.hid (show ∀ W, Sl (Flat Score.lst) 3 W v x → _ from fun W hW => spec_NeededToLead r b x v a y W (near_i64 hr) (near_i64 hbb) hW (drawn_ok hd) (near_i64 ha) (near_i64 hy))
    have HAS := Lib.hid (show ∀ p, I64 p → ∀ W, Sl (Flat Score.lst) 3 W v x → _ from fun p hp W hW => impl_AddScore r b x v ⟨a, y, p⟩ W (near_i64 hr) (near_i64 hbb) hW (drawn_ok hd) ⟨near_i64 ha, near_i64 hy, hp⟩ (by omega))
    have HOK := Lib.hid (show ∀ p, I64 p → ∀ s ∈ asOut r b x ⟨a, y, p⟩, Score.ok s from fun p hp => asOut_ok (drawn_ok hd) ⟨near_i64 ha, near_i64 hy, hp⟩)
    have HMF := Lib.hid (fun h more hm l hl => more_facts (n := r) (m := b) (xs := x) (r := a) (race := y) h more hm l hl)
    have HLF := Lib.hid (fun h more hm l hl => less_facts (n := r) (m := b) (xs := x) (r := a) (race := y) h more hm l hl)
    have HRR := Lib.hid (And.intro (near_i64 hr) (near_i64 hbb))
    generalize needV r b x a y = nv at HI HJ HMF HLF
    generalize needB r b x a y = nb at HI HJ HMF HLF
    clear hs hd hb hr hbb ha hy hl
    go_wp2_with fail
    refine (HI.out _ HS.out).mono ?_
    rintro e w' ⟨rfl, hb⟩
    replace HB := Lib.hid (step_ HB.out (Nat.le_refl _) hb)
    replace HS := Lib.hid (Sl.below (Flat.keeps _) HS.out hb)
    clear hb HI
    go_wp2_with fail
    refine (HJ.out _ HS.out).mono ?_
    rintro e w' ⟨rfl, hb⟩
    replace HB := Lib.hid (step_ HB.out (Nat.le_refl _) hb)
    replace HS := Lib.hid (Sl.below (Flat.keeps _) HS.out hb)
    clear hb HJ
    go_upto_if 84 with fail
    go_cut [] (fun wx => Hid (Below w.heap.size w wx))
    case first =>
      cases nb with
      | false =>
        go_wp2_with fail
        go_meet
        exact HB
      | true =>
       as_aux_lemma =>
        have HMF := Lib.hid (HMF.out rfl)
        have HLF := Lib.hid (HLF.out rfl)
        obtain ⟨f1, f2, ⟨f3, f3'⟩, f4, f5, f6⟩ := HMF.out _ rfl _ rfl
        have hn1 : I64 nv := by unfold I64; omega
        have hn2 : I64 (nv - 1) := by unfold I64; omega
        have HI1 := Lib.hid (HAS.out nv hn1)
        have HOK1 := Lib.hid (HOK.out nv hn1)
        have HI2 := Lib.hid (HAS.out (nv - 1) hn2)
        have HOK2 := Lib.hid (HOK.out (nv - 1) hn2)
        have HLF := Lib.hid (HLF.out _ rfl _ rfl)
        simp only [f1] at HI1
        clear f1 HMF HAS HOK hn1 hn2
        generalize asOut r b x ⟨a, y, nv⟩ = more at *
        generalize asOut r b x ⟨a, y, nv - 1⟩ = less at *
        generalize asOk r b x ⟨a, y, nv - 1⟩ = okl at *
        have HST := Lib.hid (show ∀ o W, Sl (Flat Score.lst) 3 W o more → _ from fun o W hW => impl_Standings r b more o W HRR.out.1 HRR.out.2 hW HOK1.out)
        have HRK := Lib.hid (fun (y : Int) (hy : I64 y) (o : Value) (W : World) (hW : Sl (Flat Score.lst) 3 W o more) => impl_SeriesRank r b more o y W HRR.out.1 HRR.out.2 hW HOK1.out hy)
        have HST2 := Lib.hid (show ∀ o W, Sl (Flat Score.lst) 3 W o less → _ from fun o W hW => impl_Standings r b less o W HRR.out.1 HRR.out.2 hW HOK2.out)
        have HRK2 := Lib.hid (fun (y : Int) (hy : I64 y) (o : Value) (W : World) (hW : Sl (Flat Score.lst) 3 W o less) => impl_SeriesRank r b less o y W HRR.out.1 HRR.out.2 hW HOK2.out hy)
        simp only [f2] at HST
        have F3 := Lib.hid (show ∀ l, stdV r b more = l → ∃ h : 0 < l.length, l[0] = a from fun l hl => by subst hl; exact ⟨f3, f3'⟩)
        have F4 := Lib.hid (show ∀ l, stdV r b more = l → ∀ h1 : 1 < l.length, askS r b more l[1] = true ∧ rankV r b more l[1] = 2 ∧ I64 l[1] from fun l hl => by subst hl; exact f4)
        have F5 := Lib.hid (show ∀ l, stdV r b less = l → okl = true → goodS r b less = true ∧ ∀ h0 : 0 < l.length, l[0] = a → ∃ h1 : 1 < l.length, askS r b less l[1] = true ∧ rankV r b less l[1] = 1 ∧ I64 l[1] from fun l hl => by subst hl; exact HLF.out)
        clear f2 f3' f3 f4 HLF HOK1 HOK2 HRR
        obtain ⟨l, hl⟩ : ∃ l, stdV r b more = l := ⟨_, rfl⟩
        obtain ⟨h0, hf0⟩ := F3.out l hl
        have F4' := Lib.hid (F4.out l hl)
        simp only [hl] at HST
        clear F3 F4 hl
        obtain ⟨l2, hl2⟩ : ∃ l, stdV r b less = l := ⟨_, rfl⟩
        have F5' := Lib.hid (F5.out l2 hl2)
        simp only [hl2] at HST2
        clear F5 hl2
        obtain ⟨gl, hgl⟩ : ∃ gl, goodS r b less = gl := ⟨_, rfl⟩
        rw [hgl] at F5'
        simp only [hgl] at HST2
        clear hgl
        go_wp2_with fail
        refine (HI1.out _ HS.out).mono ?_
        rintro e w' ⟨o1, rfl, row1, hb⟩
        replace HB := Lib.hid (step_ HB.out (Nat.le_refl _) hb)
        replace HS := Lib.hid (Sl.below (Flat.keeps _) HS.out hb)
        have HM := Lib.hid (Sl.of_flat row1)
        clear row1 hb HI1
        go_wp2_with fail
        refine (HST.out _ _ HM.out).mono ?_
        rintro e w' ⟨o2, rfl, row2, hb⟩
        replace HB := Lib.hid (step_ HB.out (Nat.le_refl _) hb)
        replace HS := Lib.hid (Sl.below (Flat.keeps _) HS.out hb)
        replace HM := Lib.hid (Sl.below (Flat.keeps _) HM.out hb)
        have HO := Lib.hid (Sl.of_flat row2)
        clear row2 hb HST
        obtain ⟨b0, off, c0, rfl, hc1, hc2, hcell⟩ := first_cell HO.out h0
        have hq0 := hcell _ (Below.refl _ _)
        rw [hf0] at hq0
        have e0 : ((l.length : Int) == 0) = false := by rw [beq_eq_false_iff_ne]; omega
        simp only [Nat.add_zero] at hq0
        go_upto_if 123 with fail
        go_cut [] (fun wx => Hid (Below w.heap.size w wx) ∧ Hid (Sl (Flat Score.lst) 3 wx v x))
        case first =>
          by_cases h1 : 1 < l.length
          · obtain ⟨k1, k2, k3⟩ := F4'.out h1
            obtain ⟨b1, off1, c1, he, -, -, hcell1⟩ := first_cell HO.out h1
            simp only [Value.slice.injEq, Option.some.injEq, Addr.mk.injEq, and_true] at he
            obtain ⟨⟨rfl, rfl⟩, -, rfl⟩ := he
            have hq1 := hcell1 _ (Below.refl _ _)
            have HR1 := Lib.hid (HRK.out l[1] k3)
            simp only [k1, k2] at HR1
            generalize l[1] = y1 at *
            have h1' : (1 : Int) < (l.length : Int) := by omega
            clear hcell hcell1 k1 k2 k3
            go_wp2_with fail
            refine (HR1.out _ _ HM.out).mono ?_
            rintro e w' ⟨rfl, hb⟩
            replace HB := Lib.hid (step_ HB.out (Nat.le_refl _) hb)
            replace HS := Lib.hid (Sl.below (Flat.keeps _) HS.out hb)
            clear hb
            go_wp2_with fail
            go_meet
            exact ⟨HB, HS⟩
          · have h1' : ¬ (1 : Int) < (l.length : Int) := by omega
            go_wp2_with fail
            go_meet
            exact ⟨HB, HS⟩
        case rest =>
         as_aux_lemma =>
          clear HB HS HM HO hq0 hcell HRK F4'
          obtain ⟨HB, HS⟩ := hcut
          go_wp2_with fail
          refine (HI2.out _ HS.out).mono ?_
          rintro e w' ⟨o3, rfl, row3, hb⟩
          replace HB := Lib.hid (step_ HB.out (Nat.le_refl _) hb)
          replace HS := Lib.hid (Sl.below (Flat.keeps _) HS.out hb)
          have HM := Lib.hid (Sl.of_flat row3)
          clear row3 hb HI2
          go_wp2_with fail
          refine (HST2.out _ _ HM.out).mono ?_
          rintro e w' ⟨o4, rfl, row4, hb⟩
          replace HB := Lib.hid (step_ HB.out (Nat.le_refl _) hb)
          replace HM := Lib.hid (Sl.below (Flat.keeps _) HM.out hb)
          have HO := Lib.hid (Sl.of_flat row4)
          clear row4 hb HST2
          cases okl with
          | false =>
            go_wp2_with fail
            go_meet
            exact HB
          | true =>
            obtain ⟨rfl, hF⟩ := F5'.out rfl
            by_cases g0 : 0 < l2.length
            · obtain ⟨b2, off2, c2, rfl, hc3, hc4, hcell⟩ := first_cell HO.out g0
              have hq2 := hcell _ (Below.refl _ _)
              have g0' : (0 : Int) < (l2.length : Int) := by omega
              simp only [Nat.add_zero] at hq2
              by_cases hf : l2[0] = a
              · obtain ⟨h1, k1, k2, k3⟩ := hF g0 hf
                obtain ⟨b1, off1, c1, he, -, -, hcell1⟩ := first_cell HO.out h1
                simp only [Value.slice.injEq, Option.some.injEq, Addr.mk.injEq, and_true] at he
                obtain ⟨⟨rfl, rfl⟩, -, rfl⟩ := he
                have hq1 := hcell1 _ (Below.refl _ _)
                have HR1 := Lib.hid (HRK2.out l2[1] k3)
                simp only [k1, k2] at HR1
                rw [hf] at hq2
                generalize l2[1] = y1 at *
                have e1 : ((l2.length : Int) == 1) = false := by rw [beq_eq_false_iff_ne]; omega
                clear hcell hcell1 k1 k2 k3 hF hf
                go_wp2_with fail
                refine (HR1.out _ _ HM.out).mono ?_
                rintro e w' ⟨rfl, hb⟩
                replace HB := Lib.hid (step_ HB.out (Nat.le_refl _) hb)
                clear hb
                go_wp2_with fail
                go_meet
                exact HB
              · have hf' : (l2[0] == a) = false := by simpa using hf
                generalize l2[0] = y0 at *
                clear hcell hF
                go_wp2_with fail
                go_meet
                exact HB
            · have g0' : ¬ (0 : Int) < (l2.length : Int) := by omega
              clear hF
              obtain ⟨A4, c4, rfl, hc3, hc4, -⟩ := HO.out.open_
              go_wp2_with fail
              go_meet
              exact HB
    case rest =>
     as_aux_lemma =>
      clear HB HS HAS HOK HMF HLF HRR
      have HB := hcut
      clear hcut
      go_wp2_with fail
      refine (draw_RacesWon v0 m _ (HC.out.below HB.out)).mono ?_
      rintro e w' ⟨r, b, v, a, x, rfl, hr, hbb, ha, hs, hl, hd, hb⟩
      replace HB := Lib.hid (step_ HB.out (Nat.le_refl _) hb)
      have HS := Lib.hid hs
      have HI := Lib.hid (show ∀ W, Sl (Flat Score.lst) 3 W v x → _ from fun W hW => impl_RacesWon r b x v a W (near_i64 hr) (near_i64 hbb) hW (drawn_ok hd) (near_i64 ha))
      have HJ := Lib.hid (show ∀ W, Sl (Flat Score.lst) 3 W v x → _ from fun W hW => spec_RacesWon r b x v a W (near_i64 hr) (near_i64 hbb) hW (drawn_ok hd) (near_i64 ha))
      generalize wonS r b x a = cs at HI HJ
      generalize askS r b x a = fine at HI HJ
      clear hs hd hb hr hbb ha hl
      go_wp2_with fail
      refine (HI.out _ HS.out).mono ?_
      rintro e w' ⟨o1, rfl, row1, hb⟩
      replace HB := Lib.hid (step_ HB.out (Nat.le_refl _) hb)
      replace HS := Lib.hid (Sl.below (Flat.keeps _) HS.out hb)
      have HO := Lib.hid (Sl.of_flat row1)
      clear row1 hb
      go_wp2_with fail
      refine (HJ.out _ HS.out).mono ?_
      rintro e w' ⟨o2, rfl, row2, hb⟩
      replace HB := Lib.hid (step_ HB.out (Nat.le_refl _) hb)
      replace HS := Lib.hid (Sl.below (Flat.keeps _) HS.out hb)
      have HE := Lib.hid (rInts_refl _ o1 o2 _ (Sl.below (Flat.keeps _) HO.out hb) (Sl.of_flat row2))
      replace HO := Lib.hid (Sl.below (Flat.keeps _) HO.out hb)
      clear row2 hb HI HJ
      go_wp2_with fail
      refine (HE.out).mono ?_
      rintro e w' ⟨rfl, hb⟩
      replace HB := Lib.hid (step_ HB.out (Nat.le_refl _) hb)
      clear hb HE HS HO
      go_wp2_with fail
      refine (draw_AddScore v0 m _ (HC.out.below HB.out)).mono ?_
      rintro e w' ⟨r, b, v, s0, s1, s2, x, rfl, hr, hbb, hsd, hs, hl, hd, hb⟩
      replace HB := Lib.hid (step_ HB.out (Nat.le_refl _) hb)
      have HI := Lib.hid (show ∀ W, Sl (Flat Score.lst) 3 W v x → _ from fun W hW => impl_AddScore r b x v ⟨s0, s1, s2⟩ W (near_i64 hr) (near_i64 hbb) hW (drawn_ok hd) hsd.ok (by omega))
      have HJ := Lib.hid (show ∀ W, Sl (Flat Score.lst) 3 W v x → _ from fun W hW => spec_AddScore r b x v ⟨s0, s1, s2⟩ W (near_i64 hr) (near_i64 hbb) hW (drawn_ok hd) hsd.ok (by omega))
      generalize asOk r b x ⟨s0, s1, s2⟩ = aok at HI HJ
      generalize asOut r b x ⟨s0, s1, s2⟩ = aout at HI HJ
      have hba : Below w'.heap.size w' (w'.alloc (.cells #[.int .i64 s0, .int .i64 s1, .int .i64 s2] 33)) := below_alloc (Below.refl _ _) _
      have HS := Lib.hid (Sl.below (Flat.keeps _) hs hba)
      have HL := Lib.hid (show LitAt (w'.alloc (.cells #[.int .i64 s0, .int .i64 s1, .int .i64 s2] 33)) w'.heap.size 33 [.int .i64 s0, .int .i64 s1, .int .i64 s2] from LitAt.new _ _ _ _ rfl)
      replace HB := Lib.hid (step_ HB.out (Nat.le_refl _) hba)
      clear hs hd hb hr hbb hl hba hsd
      go_wp2_with fail
      refine (HI.out _ HS.out).mono ?_
      rintro e w1 ⟨o1, rfl, row1, hb⟩
      replace HB := Lib.hid (step_ HB.out (Nat.le_refl _) hb)
      replace HS := Lib.hid (Sl.below (Flat.keeps _) HS.out hb)
      replace HL := Lib.hid (HL.out.below hb)
      have HO := Lib.hid (Sl.of_flat row1)
      have l0 := HL.out.range 0 _ rfl
      have l1 := HL.out.range 1 _ rfl
      have l2 := HL.out.range 2 _ rfl
      simp only [Nat.zero_add] at l0 l1 l2
      clear row1 hb HI
      go_wp2_with fail
      refine (HJ.out _ HS.out).mono ?_
      rintro e w' ⟨o2, rfl, row2, hb⟩
      replace HB := Lib.hid (step_ HB.out (Nat.le_refl _) hb)
      have HE := Lib.hid (rScores_refl _ o1 o2 _ (Sl.below (Flat.keeps _) HO.out hb) (Sl.of_flat row2))
      clear row2 hb HJ HO HS HL l0 l1 l2
      go_wp2_with fail
      refine (HE.out).mono ?_
      rintro e w' ⟨rfl, hb⟩
      replace HB := Lib.hid (step_ HB.out (Nat.le_refl _) hb)
      clear hb HE
      go_wp2_with fail
      refine (draw_SeriesRank v0 m _ (HC.out.below HB.out)).mono ?_
      rintro e w' ⟨r, b, v, a, x, rfl, hr, hbb, ha, hs, hl, hd, hb⟩
      replace HB := Lib.hid (step_ HB.out (Nat.le_refl _) hb)
      have HS := Lib.hid hs
      have HI := Lib.hid (show ∀ W, Sl (Flat Score.lst) 3 W v x → _ from fun W hW => impl_SeriesRank r b x v a W (near_i64 hr) (near_i64 hbb) hW (drawn_ok hd) (near_i64 ha))
      have HJ := Lib.hid (show ∀ W, Sl (Flat Score.lst) 3 W v x → _ from fun W hW => spec_SeriesRank r b x v a W (near_i64 hr) (near_i64 hbb) hW (drawn_ok hd) (near_i64 ha))
      generalize rankV r b x a = rk at HI HJ
      generalize askS r b x a = fine at HI HJ
      clear hs hd hb hr hbb ha hl
      go_wp2_with fail
      refine (HI.out _ HS.out).mono ?_
      rintro e w' ⟨rfl, hb⟩
      replace HB := Lib.hid (step_ HB.out (Nat.le_refl _) hb)
      replace HS := Lib.hid (Sl.below (Flat.keeps _) HS.out hb)
      clear hb HI
      go_wp2_with fail
      refine (HJ.out _ HS.out).mono ?_
      rintro e w' ⟨rfl, hb⟩
      replace HB := Lib.hid (step_ HB.out (Nat.le_refl _) hb)
      clear hb HJ
      cases fine <;> (
      go_wp2_with fail
      go_ret
      exact ⟨by simp, HB.out⟩)
end Go.Proofs.Ythhlfkeikcmnlaa
