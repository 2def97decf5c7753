/- The walk of the law FnProtests: it returns true. No condition. -/
import Derived.Test.YtabihggfnofcbaaPrQ
import Derived.Test.YtabihggfnofcbaaDrPt
import Derived.Test.YtabihggfnofcbaaByte
import Derived.Test.YtabihggfnofcbaaWithSpec
namespace Go.Proofs.Ytabihggfnofcbaa
open Go Go.RowKit

theorem near_i64 {x : Int} (h : NearI x) : I64 x := by unfold I64; omega
theorem drawn_ok {ps : List Prot} (h : ∀ p ∈ ps, DrawnPr p) : ∀ p ∈ ps, Prot.ok p := by
  intro p hp
  have := h p hp
  simp only [DrawnPr] at this
  simp only [Prot.ok, I64]
  omega
set_option maxHeartbeats 1000000 in
theorem rProtests_refl (ps : List Prot) (v v' : Value) (w : World) (h : Sl (Flat Prot.lst) 6 w v ps) (h' : Sl (Flat Prot.lst) 6 w v' ps) :
    Calls Try.prog 49 #[v, v'] w fun e w' => e = .returned (.bool true) ∧ Below w.heap.size w w' := by
  obtain ⟨A, c, rfl, hc, hm, hk⟩ := h.open_
  obtain ⟨A', c', rfl, hc', hm', hk'⟩ := h'.open_
  clear h h'
  go_enter Try.func49, Try.ntmps49
  go_wp2
  go_loopw [5] (fun i wr => ∃ k : Nat, k ≤ ps.length ∧ i = .int .i64 k ∧ Below w.heap.size w wr)
    (fun i _ => ps.length - (intOf i).toNat)
  case atStart => exact ⟨0, Nat.zero_le _, rfl, Below.refl _ _⟩
  case round =>
    obtain ⟨k, hkl, rfl, hb⟩ := hrel
    by_cases hlt : k < ps.length
    · obtain ⟨b, off, rfl, hat⟩ := flat_at hk (by omega)
      obtain ⟨b', off', rfl, hat'⟩ := flat_at hk' (by omega)
      have hr := rangeAt_below (hat k hlt) hb
      have hr' := rangeAt_below (hat' k hlt) hb
      clear hat hat' hk hk'
      generalize ps[k] = p at hr hr'
      obtain ⟨b0, b1, b2, b3, b4, b5⟩ := p
      go_wp2
      refine region_after (by kernel_rfl) (by kernel_rfl) ?_
      repeat (any_goals (first | go_big_quiet_step (fail) | (refine Prot.qloadImpl rfl _ rfl b (off + k * 6) rfl ⟨b0, b1, b2, b3, b4, b5⟩ hr ?_) | (refine Prot.qloadImpl rfl _ rfl b' (off' + k * 6) rfl ⟨b0, b1, b2, b3, b4, b5⟩ hr' ?_) | quiet_step (fail) | (refine wpQuiet_step (fun K hK => ?_); go_simp; split <;> (refine hK _ ?_; clear hK K))))
      all_goals (refine wpQuiet_nil ?_; intro s)
      go_wp2
      go_roundw
      case rel => exact ⟨k + 1, by omega, by go_num, step_ hb (Nat.le_refl _) s.hb⟩
      case measure => simp [intOf]; omega
    · go_wp2
      go_ret
      exact ⟨rfl, hb⟩
set_option maxRecDepth 100000 in
set_option maxHeartbeats 8000000 in
theorem fnProtests_walk (v0 : Value) (m : Nat) (w : World) (h0 : CodeS w v0 m) :
    Calls Try.prog 14 #[v0] w fun e w' => e = .returned (.bool true) ∧ Below w.heap.size w w' := by
  obtain ⟨q, hq⟩ : ∃ q, q = decide (65536 < m) := ⟨_, rfl⟩
  have HC := Lib.hid h0
  have HV := Lib.hid (rBig_any v0 m q w h0 hq)
  have HB := Lib.hid (Below.refl w.heap.size w)
  clear hq h0
  cases q with
  | true =>
    go_enter Try.func14, Try.ntmps14
    go_wp2_with fail
    refine (HV.out).mono ?_
    rintro e w' ⟨rfl, hb⟩
    replace HB := Lib.hid (step_ HB.out (Nat.le_refl _) hb)
    go_wp2_with fail
    go_ret
    exact ⟨rfl, HB.out⟩
  | false =>
    go_enter Try.func14, Try.ntmps14
    go_wp2_with fail
    refine (HV.out).mono ?_
    rintro e w' ⟨rfl, hb⟩
    replace HB := Lib.hid (step_ HB.out (Nat.le_refl _) hb)
    clear hb HV
    go_wp2_with fail
    refine (draw_MakeProtest v0 m _ (HC.out.below HB.out)).mono ?_
    rintro e w' ⟨v, x, by_, ag, t, rfl, hby, hag, ht, hs, hl, hd, hb⟩
    replace HB := Lib.hid (step_ HB.out (Nat.le_refl _) hb)
    have HS := Lib.hid hs
    have HI := Lib.hid (show ∀ W, Sl (Flat Prot.lst) 6 W v x → _ from fun W hW => impl_MakeProtest x v by_ ag t W hW (drawn_ok hd) (near_i64 hby) (near_i64 hag) (near_i64 ht) (by omega))
    have HJ := Lib.hid (show ∀ W, Sl (Flat Prot.lst) 6 W v x → _ from fun W hW => spec_MakeProtest x v by_ ag t W hW (drawn_ok hd) (near_i64 hby) (near_i64 hag) (near_i64 ht) (by omega))
    have HF := Lib.hid (@make_facts x by_ ag t)
    have HAG := Lib.hid (near_i64 hag)
    generalize mkOk x by_ ag t = ok at HI HJ HF
    generalize mkId x by_ ag t = id at HI HJ HF
    generalize mkOut x by_ ag t = out at HI HJ HF
    clear hs hd hb hby hag ht
    go_wp2_with fail
    refine (HI.out _ HS.out).mono ?_
    rintro e w' ⟨o1, rfl, row1, hb⟩
    replace HB := Lib.hid (step_ HB.out (Nat.le_refl _) hb)
    replace HS := Lib.hid (Sl.below (Flat.keeps _) HS.out hb)
    have HO := Lib.hid (sl_prots row1)
    clear row1 hb
    go_wp2_with fail
    refine (HJ.out _ HS.out).mono ?_
    rintro e w' ⟨o2, rfl, row2, hb⟩
    replace HB := Lib.hid (step_ HB.out (Nat.le_refl _) hb)
    replace HS := Lib.hid (Sl.below (Flat.keeps _) HS.out hb)
    have HE := Lib.hid (rProtests_refl _ o1 o2 _ (Sl.below (Flat.keeps _) HO.out hb) (sl_prots row2))
    replace HO := Lib.hid (Sl.below (Flat.keeps _) HO.out hb)
    clear row2 hb HI HJ
    clear HS
    go_wp2_with fail
    refine (HE.out).mono ?_
    rintro e w' ⟨rfl, hb⟩
    replace HB := Lib.hid (step_ HB.out (Nat.le_refl _) hb)
    replace HO := Lib.hid (Sl.below (Flat.keeps _) HO.out hb)
    clear hb HE
    go_upto_if 88 with fail
    go_cut [] (fun wx => Hid (Below w.heap.size w wx))
    case first =>
      cases ok with
      | false =>
        go_wp2_with fail
        go_meet
        exact HB
      | true =>
        obtain ⟨_, o1, o2, o3, _, rfl, rfl, g0, p0, a0, a1, a2, e1, k1, g1, e2, k2, g2, e3, k3, g3, u3, hid⟩ := HF.out rfl
        have HP := Lib.hid (impl_PendingProtests out _ _ HO.out (good_ok g0))
        rw [g0] at HP
        have HP0 := Lib.hid p0
        have HA0 := Lib.hid a0
        have HA1 := Lib.hid a1
        have HA2 := Lib.hid a2
        have HU3 := Lib.hid u3
        have HA := Lib.hid (fun u W (hW : Sl (Flat Prot.lst) 6 W u out) => impl_ProtestsAbout out u ag W hW (good_ok g0) HAG.out)
        have HH := Lib.hid (fun u W (hW : Sl (Flat Prot.lst) 6 W u out) => impl_HearProtest out u id W hW (good_ok g0) hid)
        have HVO := Lib.hid (fun u W (hW : Sl (Flat Prot.lst) 6 W u o1) => impl_VoteOn o1 u id true W hW (good_ok g1) hid)
        have HDE := Lib.hid (fun u W (hW : Sl (Flat Prot.lst) 6 W u o2) => impl_DecideProtest o2 u id W hW (good_ok g2) hid)
        have HUP := Lib.hid (fun u W (hW : Sl (Flat Prot.lst) 6 W u o3) => impl_UpheldRunners o3 u W hW (good_ok g3))
        simp only [a0] at HA
        simp only [e1, k1] at HH
        simp only [e2, k2] at HVO
        simp only [e3, k3] at HDE
        simp only [g3] at HUP
        clear g0 p0 a0 a1 a2 e1 k1 g1 e2 k2 g2 e3 k3 g3 u3 hid HF
        go_wp2_with fail
        refine (HP.out).mono ?_
        rintro e w' ⟨r1, rfl, row1, hb⟩
        replace HB := Lib.hid (step_ HB.out (Nat.le_refl _) hb)
        have HR1 := Lib.hid (Sl.of_flat row1)
        replace HO := Lib.hid (Sl.below (Flat.keeps _) HO.out hb)
        clear row1 hb HP
        go_wp2_with fail
        refine (HA.out _ _ HO.out).mono ?_
        rintro e w' ⟨r2, r3, rfl, row2, row3, _, hb⟩
        replace HB := Lib.hid (step_ HB.out (Nat.le_refl _) hb)
        have HR2 := Lib.hid (Sl.of_flat row2)
        have HR3 := Lib.hid (Sl.of_flat row3)
        replace HR1 := Lib.hid (Sl.below (Flat.keeps _) HR1.out hb)
        replace HO := Lib.hid (Sl.below (Flat.keeps _) HO.out hb)
        clear row2 row3 hb HA
        go_wp2_with fail
        refine (HH.out _ _ HO.out).mono ?_
        rintro e w' ⟨r4, rfl, row4, hb⟩
        replace HB := Lib.hid (step_ HB.out (Nat.le_refl _) hb)
        have HR4 := Lib.hid (sl_prots row4)
        replace HR1 := Lib.hid (Sl.below (Flat.keeps _) HR1.out hb)
        replace HR2 := Lib.hid (Sl.below (Flat.keeps _) HR2.out hb)
        replace HR3 := Lib.hid (Sl.below (Flat.keeps _) HR3.out hb)
        clear row4 hb HH HO
        go_wp2_with fail
        refine (HVO.out _ _ HR4.out).mono ?_
        rintro e w' ⟨r5, rfl, row5, hb⟩
        replace HB := Lib.hid (step_ HB.out (Nat.le_refl _) hb)
        have HR5 := Lib.hid (sl_prots row5)
        replace HR1 := Lib.hid (Sl.below (Flat.keeps _) HR1.out hb)
        replace HR2 := Lib.hid (Sl.below (Flat.keeps _) HR2.out hb)
        replace HR3 := Lib.hid (Sl.below (Flat.keeps _) HR3.out hb)
        clear row5 hb HVO HR4
        go_wp2_with fail
        refine (HDE.out _ _ HR5.out).mono ?_
        rintro e w' ⟨r6, rfl, row6, hb⟩
        replace HB := Lib.hid (step_ HB.out (Nat.le_refl _) hb)
        have HR6 := Lib.hid (sl_prots row6)
        replace HR1 := Lib.hid (Sl.below (Flat.keeps _) HR1.out hb)
        replace HR2 := Lib.hid (Sl.below (Flat.keeps _) HR2.out hb)
        replace HR3 := Lib.hid (Sl.below (Flat.keeps _) HR3.out hb)
        clear row6 hb HDE HR5
        go_wp2_with fail
        refine (HUP.out _ _ HR6.out).mono ?_
        rintro e w' ⟨r7, rfl, row7, hb⟩
        replace HB := Lib.hid (step_ HB.out (Nat.le_refl _) hb)
        have HR7 := Lib.hid (Sl.of_flat row7)
        replace HR1 := Lib.hid (Sl.below (Flat.keeps _) HR1.out hb)
        replace HR2 := Lib.hid (Sl.below (Flat.keeps _) HR2.out hb)
        replace HR3 := Lib.hid (Sl.below (Flat.keeps _) HR3.out hb)
        clear row7 hb HUP HR6
        have HQ1 := Lib.hid (rHas_any (pendM out) id r1 _ HR1.out)
        rw [decide_eq_true HP0.out] at HQ1
        go_wp2_with fail
        refine (HQ1.out).mono ?_
        rintro e w' ⟨rfl, hb⟩
        replace HB := Lib.hid (step_ HB.out (Nat.le_refl _) hb)
        replace HR2 := Lib.hid (Sl.below (Flat.keeps _) HR2.out hb)
        replace HR3 := Lib.hid (Sl.below (Flat.keeps _) HR3.out hb)
        replace HR7 := Lib.hid (Sl.below (Flat.keeps _) HR7.out hb)
        clear hb HQ1 HR1
        have HQ2 := Lib.hid (rHas_any (aboutM out ag) id r2 _ HR2.out)
        rw [decide_eq_true HA1.out] at HQ2
        go_wp2_with fail
        refine (HQ2.out).mono ?_
        rintro e w' ⟨rfl, hb⟩
        replace HB := Lib.hid (step_ HB.out (Nat.le_refl _) hb)
        replace HR3 := Lib.hid (Sl.below (Flat.keeps _) HR3.out hb)
        replace HR7 := Lib.hid (Sl.below (Flat.keeps _) HR7.out hb)
        clear hb HQ2 HR2
        have HQ3 := Lib.hid (rHas_any (byM out ag) id r3 _ HR3.out)
        rw [decide_eq_false HA2.out] at HQ3
        go_wp2_with fail
        refine (HQ3.out).mono ?_
        rintro e w' ⟨rfl, hb⟩
        replace HB := Lib.hid (step_ HB.out (Nat.le_refl _) hb)
        replace HR7 := Lib.hid (Sl.below (Flat.keeps _) HR7.out hb)
        clear hb HQ3 HR3
        have HQ4 := Lib.hid (rHas_any (upM o3) ag r7 _ HR7.out)
        rw [decide_eq_true HU3.out] at HQ4
        go_wp2_with fail
        refine (HQ4.out).mono ?_
        rintro e w' ⟨rfl, hb⟩
        replace HB := Lib.hid (step_ HB.out (Nat.le_refl _) hb)
        clear hb HQ4 HR7
        go_wp2_with fail
        go_meet
        exact HB
    case rest =>
      clear HO HF HB HAG
      have HB := hcut
      clear hcut
      go_wp2_with fail
      refine (draw_DecideProtest v0 m _ (HC.out.below HB.out)).mono ?_
      rintro e w' ⟨v, x, id, rfl, hid, hs, hl, hd, hb⟩
      replace HB := Lib.hid (step_ HB.out (Nat.le_refl _) hb)
      have HS := Lib.hid hs
      have HI := Lib.hid (show ∀ W, Sl (Flat Prot.lst) 6 W v x → _ from fun W hW => impl_DecideProtest x v id W hW (drawn_ok hd) (near_i64 hid))
      have HJ := Lib.hid (show ∀ W, Sl (Flat Prot.lst) 6 W v x → _ from fun W hW => spec_DecideProtest x v id W hW (drawn_ok hd) (near_i64 hid))
      have HF := Lib.hid (@decide_facts x id)
      generalize wOk x id cOpen fDecide = ok at HI HJ HF
      generalize wOut x id cOpen fDecide = out at HI HJ HF
      clear hs hd hb hid
      go_wp2_with fail
      refine (HI.out _ HS.out).mono ?_
      rintro e w' ⟨o1, rfl, row1, hb⟩
      replace HB := Lib.hid (step_ HB.out (Nat.le_refl _) hb)
      replace HS := Lib.hid (Sl.below (Flat.keeps _) HS.out hb)
      have HO := Lib.hid (sl_prots row1)
      clear row1 hb
      go_wp2_with fail
      refine (HJ.out _ HS.out).mono ?_
      rintro e w' ⟨o2, rfl, row2, hb⟩
      replace HB := Lib.hid (step_ HB.out (Nat.le_refl _) hb)
      replace HS := Lib.hid (Sl.below (Flat.keeps _) HS.out hb)
      have HE := Lib.hid (rProtests_refl _ o1 o2 _ (Sl.below (Flat.keeps _) HO.out hb) (sl_prots row2))
      replace HO := Lib.hid (Sl.below (Flat.keeps _) HO.out hb)
      clear row2 hb HI HJ
      clear HS
      go_wp2_with fail
      refine (HE.out).mono ?_
      rintro e w' ⟨rfl, hb⟩
      replace HB := Lib.hid (step_ HB.out (Nat.le_refl _) hb)
      replace HO := Lib.hid (Sl.below (Flat.keeps _) HO.out hb)
      clear hb HE
      go_upto_if 195 with fail
      go_cut [] (fun wx => Hid (Below w.heap.size w wx))
      case first =>
        cases ok with
        | false =>
          go_wp2_with fail
          go_meet
          exact HB
        | true =>
          obtain ⟨g0, p0⟩ := HF.out rfl
          have HP := Lib.hid (impl_PendingProtests out _ _ HO.out (good_ok g0))
          rw [g0] at HP
          have HP0 := Lib.hid p0
          have HG0 := Lib.hid g0
          clear g0 p0 HF
          go_wp2_with fail
          refine (HP.out).mono ?_
          rintro e w' ⟨r1, rfl, row1, hb⟩
          replace HB := Lib.hid (step_ HB.out (Nat.le_refl _) hb)
          have HQ1 := Lib.hid (rHas_any (pendM out) id r1 _ (Sl.of_flat row1))
          rw [decide_eq_false HP0.out] at HQ1
          replace HO := Lib.hid (Sl.below (Flat.keeps _) HO.out hb)
          clear row1 hb HP
          go_wp2_with fail
          refine (HQ1.out).mono ?_
          rintro e w' ⟨rfl, hb⟩
          replace HB := Lib.hid (step_ HB.out (Nat.le_refl _) hb)
          have HA := Lib.hid (impl_AreProtests out _ _ (Sl.below (Flat.keeps _) HO.out hb) (good_ok HG0.out))
          rw [HG0.out] at HA
          clear hb HQ1
          go_wp2_with fail
          refine (HA.out).mono ?_
          rintro e w' ⟨rfl, hb⟩
          replace HB := Lib.hid (step_ HB.out (Nat.le_refl _) hb)
          clear hb HA
          go_wp2_with fail
          go_meet
          exact HB
      case rest =>
        clear HO HF HB
        have HB := hcut
        clear hcut
        go_wp2_with fail
        refine (draw_HearProtest v0 m _ (HC.out.below HB.out)).mono ?_
        rintro e w' ⟨v, x, id, rfl, hid, hs, hl, hd, hb⟩
        replace HB := Lib.hid (step_ HB.out (Nat.le_refl _) hb)
        have HS := Lib.hid hs
        have HI := Lib.hid (show ∀ W, Sl (Flat Prot.lst) 6 W v x → _ from fun W hW => impl_HearProtest x v id W hW (drawn_ok hd) (near_i64 hid))
        have HJ := Lib.hid (show ∀ W, Sl (Flat Prot.lst) 6 W v x → _ from fun W hW => spec_HearProtest x v id W hW (drawn_ok hd) (near_i64 hid))
        generalize wOk x id cHear fHear = ok at HI HJ
        generalize wOut x id cHear fHear = out at HI HJ
        clear hs hd hb hid
        go_wp2_with fail
        refine (HI.out _ HS.out).mono ?_
        rintro e w' ⟨o1, rfl, row1, hb⟩
        replace HB := Lib.hid (step_ HB.out (Nat.le_refl _) hb)
        replace HS := Lib.hid (Sl.below (Flat.keeps _) HS.out hb)
        have HO := Lib.hid (sl_prots row1)
        clear row1 hb
        go_wp2_with fail
        refine (HJ.out _ HS.out).mono ?_
        rintro e w' ⟨o2, rfl, row2, hb⟩
        replace HB := Lib.hid (step_ HB.out (Nat.le_refl _) hb)
        replace HS := Lib.hid (Sl.below (Flat.keeps _) HS.out hb)
        have HE := Lib.hid (rProtests_refl _ o1 o2 _ (Sl.below (Flat.keeps _) HO.out hb) (sl_prots row2))
        replace HO := Lib.hid (Sl.below (Flat.keeps _) HO.out hb)
        clear row2 hb HI HJ
        clear HS HO
        go_wp2_with fail
        refine (HE.out).mono ?_
        rintro e w' ⟨rfl, hb⟩
        replace HB := Lib.hid (step_ HB.out (Nat.le_refl _) hb)
        clear hb HE
        go_wp2_with fail
        refine (draw_VoteOn v0 m _ (HC.out.below HB.out)).mono ?_
        rintro e w' ⟨v, x, id, pro, rfl, hid, hs, hl, hd, hb⟩
        replace HB := Lib.hid (step_ HB.out (Nat.le_refl _) hb)
        have HS := Lib.hid hs
        have HI := Lib.hid (show ∀ W, Sl (Flat Prot.lst) 6 W v x → _ from fun W hW => impl_VoteOn x v id pro W hW (drawn_ok hd) (near_i64 hid))
        have HJ := Lib.hid (show ∀ W, Sl (Flat Prot.lst) 6 W v x → _ from fun W hW => spec_VoteOn x v id pro W hW (drawn_ok hd) (near_i64 hid))
        generalize wOk x id cOpen (fVote pro) = ok2 at HI HJ
        generalize wOut x id cOpen (fVote pro) = out2 at HI HJ
        clear hs hd hb hid
        go_wp2_with fail
        refine (HI.out _ HS.out).mono ?_
        rintro e w' ⟨o1, rfl, row1, hb⟩
        replace HB := Lib.hid (step_ HB.out (Nat.le_refl _) hb)
        replace HS := Lib.hid (Sl.below (Flat.keeps _) HS.out hb)
        have HO := Lib.hid (sl_prots row1)
        clear row1 hb
        go_wp2_with fail
        refine (HJ.out _ HS.out).mono ?_
        rintro e w' ⟨o2, rfl, row2, hb⟩
        replace HB := Lib.hid (step_ HB.out (Nat.le_refl _) hb)
        replace HS := Lib.hid (Sl.below (Flat.keeps _) HS.out hb)
        have HE := Lib.hid (rProtests_refl _ o1 o2 _ (Sl.below (Flat.keeps _) HO.out hb) (sl_prots row2))
        replace HO := Lib.hid (Sl.below (Flat.keeps _) HO.out hb)
        clear row2 hb HI HJ
        clear HS HO
        cases ok2 <;> (
          go_wp2_with fail
          refine (HE.out).mono ?_
          rintro e w' ⟨rfl, hb⟩
          replace HB := Lib.hid (step_ HB.out (Nat.le_refl _) hb)
          clear hb HE
          go_wp2_with fail
          go_ret
          exact ⟨rfl, HB.out⟩)
end Go.Proofs.Ytabihggfnofcbaa
