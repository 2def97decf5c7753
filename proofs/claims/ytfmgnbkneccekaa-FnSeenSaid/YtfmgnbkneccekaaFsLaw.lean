/- The walk of the law FnSeen: it returns true. No condition. -/
import Derived.Test.YtfmgnbkneccekaaFsR
import Derived.Test.YtfmgnbkneccekaaDrRb
import Derived.Test.YtfmgnbkneccekaaVRc
import Derived.Test.YtfmgnbkneccekaaVRd
namespace Go.Proofs.Ytfmgnbkneccekaa
open Go Go.RowKit

theorem race_cells {w : World} {g : Nat} {p : Race} (h : LitAt w g 24 p.lst) : w.cell? ⟨g, 0, none⟩ = some (.int .i64 p.clock) ∧ w.cell? ⟨g, 1, none⟩ = some (.bool p.closed) ∧ w.cell? ⟨g, 2, none⟩ = some (.slice p.a p.n p.c) := by
  have r := h.range
  have b0 := r 0 _ rfl
  have b1 := r 1 _ rfl
  have b2 := r 2 _ rfl
  simp only [Nat.zero_add] at b0 b1 b2
  exact ⟨b0, b1, b2⟩
theorem Race.qloadImpl {w : World} {ops : Array Oper} {rest : List Oper} {o : Oper} {a : Act} {Q : Act → Prop} (hw : Region.wanted o (yielded ops a.tmps) = true) (x : Operand) (ho : o.op = .load 24 x) (b : Nat) (hx : a.eval x = .pointer (some ⟨b, 0, none⟩)) (p : Race) (hl : LitAt w b 24 p.lst)
    (h : wpQuiet Try.prog ops (Cl w) Q rest (a.put o.dst (.agg #[.int .i64 p.clock, .bool p.closed, .slice p.a p.n p.c]))) : wpQuiet Try.prog ops (Cl w) Q (o :: rest) a := stRaceImpl.qload hw x ho b 0 hx p.lst rfl hl.range h
theorem runs_len {k : RaceK} {zs : List Run} (h : zs.map Run.k = runsV k) (hb : runsB k = true) : zs.length = k.field.length := by
  have := congrArg List.length h
  rw [(runs_good hb).2] at this
  simpa using this
set_option maxRecDepth 100000 in
set_option maxHeartbeats 16000000 in
theorem fnSeen_walk (v0 : Value) (m : Nat) (w : World) (h0 : CodeS w v0 m) :
    Calls Try.prog 11 #[v0] w fun e w' => e = .returned (.bool true) ∧ Below w.heap.size w w' := by
  obtain ⟨q, hq⟩ : ∃ q, q = decide (65536 < m) := ⟨_, rfl⟩
  have HC := Lib.hid h0
  have HV := Lib.hid (vBig_any v0 m q w h0 hq)
  have HB := Lib.hid (Below.refl w.heap.size w)
  clear hq h0
  cases q with
  | true =>
    go_enter Try.func11, Try.ntmps11
    go_wp2_with fail
    refine (HV.out).mono ?_
    rintro e w' ⟨rfl, hb⟩
    replace HB := Lib.hid (step_ HB.out (Nat.le_refl _) hb)
    go_wp2_with fail
    go_ret
    exact ⟨rfl, HB.out⟩
  | false =>
    go_enter Try.func11, Try.ntmps11
    go_wp2_with fail
    refine (HV.out).mono ?_
    rintro e w' ⟨rfl, hb⟩
    replace HB := Lib.hid (step_ HB.out (Nat.le_refl _) hb)
    clear hb HV
    go_wp2_with fail
    refine (draw_RunsOf v0 m _ (HC.out.below HB.out)).mono ?_
    rintro e w' ⟨p, rfl, hr, hl, hb⟩
    replace HB := Lib.hid (step_ HB.out (Nat.le_refl _) hb)
    have hal : Below w'.heap.size w' (w'.alloc (.cells #[.int .i64 p.clock, .bool p.closed, .slice p.a p.n p.c] 24)) := below_alloc (Below.refl _ _) _
    have H3 := Lib.hid (show LitAt (w'.alloc (.cells #[.int .i64 p.clock, .bool p.closed, .slice p.a p.n p.c] 24)) w'.heap.size 24 p.lst from LitAt.new _ _ p.lst _ rfl)
    have HP := Lib.hid (RaceR.below hr hal)
    replace HB := Lib.hid (step_ HB.out (Nat.le_refl _) hal)
    clear hr hb
    go_upto_region 4 with fail
    generalize w'.alloc (.cells #[.int .i64 p.clock, .bool p.closed, .slice p.a p.n p.c] 24) = W1 at *
    generalize w'.heap.size = b3 at *
    have hpn := (RaceR.s HP.out).len
    have hlk : p.k.field.length = p.zs.length := by simp [Race.k]
    have HI := Lib.hid (show ∀ W, p.In W → _ from fun W hW => impl_RunsOf p p.k W rfl hW)
    have HJ := Lib.hid (show ∀ W, p.In W → _ from fun W hW => spec_RunsOf p p.k W rfl hW)
    have HF := Lib.hid (show runsB p.k = true → goodRs (runsV p.k) = true ∧ (runsV p.k).length = p.n from fun h => ⟨(runs_good h).1, by rw [(runs_good h).2, hlk, hpn]⟩)
    generalize runsB p.k = ok at HI HJ HF
    generalize runsV p.k = rv at HI HJ HF
    clear hpn hlk hl hal
    obtain ⟨a0, a1, a2⟩ := race_cells H3.out
    go_wp2_with fail
    refine (HI.out _ (RaceR.s HP.out)).mono ?_
    rintro e w' ⟨r1, z1, rfl, hz1, hr1, hb⟩
    replace HB := Lib.hid (step_ HB.out (Nat.le_refl _) hb)
    replace H3 := Lib.hid (H3.out.below hb)
    have HR1 := Lib.hid hr1
    replace HP := Lib.hid (RaceR.below HP.out hb)
    clear a0 a1 a2 hr1 hb HI
    obtain ⟨a0, a1, a2⟩ := race_cells H3.out
    go_wp2_with fail
    refine (HJ.out _ (RaceR.s HP.out)).mono ?_
    rintro e w' ⟨r2, z2, rfl, hz2, hr2, hb⟩
    replace HB := Lib.hid (step_ HB.out (Nat.le_refl _) hb)
    replace H3 := Lib.hid (H3.out.below hb)
    have HRS1 := Lib.hid ((HR1.out.below hb).s)
    have HRS2 := Lib.hid hr2.s
    clear a0 a1 a2 hr2 hb HJ HR1
    go_upto_region 6 with fail
    rename_i W6
    have HV := Lib.hid (vRuns_any z1 z2 r1 r2 _ HRS1.out HRS2.out (hz1.trans hz2.symm))
    have HZ1 := Lib.hid hz1
    clear hz1 hz2
    go_cut [68] (fun tv wx => tv = .bool false ∧ Hid (Below w.heap.size w wx))
    case first =>
      cases ok with
      | false =>
        go_wp2_with fail
        refine (HV.out).mono ?_
        rintro e w' ⟨rfl, hb⟩
        replace HB := Lib.hid (step_ HB.out (Nat.le_refl _) hb)
        go_wp2_with fail
        go_meet
        exact ⟨rfl, HB⟩
      | true =>
        obtain ⟨f1, f2⟩ := HF.out rfl
        have hn1 : z1.length = p.n := by
          have := congrArg List.length HZ1.out
          rw [f2] at this
          simpa using this
        have hne : ((z1.length : Int) != (p.n : Int)) = false := by simp [hn1]
        clear hn1
        have HAR := Lib.hid (show ∀ W, RunS W r1 z1 → _ from fun W hW => areRuns_any z1 r1 W hW)
        rw [HZ1.out, f1] at HAR
        go_wp2_with fail
        refine (HV.out).mono ?_
        rintro e w' ⟨rfl, hb⟩
        replace HB := Lib.hid (step_ HB.out (Nat.le_refl _) hb)
        replace H3 := Lib.hid (H3.out.below hb)
        have HRW := Lib.hid (RunS.below HRS1.out hb)
        clear hb
        go_wp2_with fail
        refine (HAR.out _ HRW.out).mono ?_
        rintro e w' ⟨rfl, hb⟩
        replace HB := Lib.hid (step_ HB.out (Nat.le_refl _) hb)
        replace H3 := Lib.hid (H3.out.below hb)
        replace HRW := Lib.hid (RunS.below HRW.out hb)
        clear hb
        obtain ⟨a0, a1, a2⟩ := race_cells H3.out
        obtain ⟨A, c, rfl, _⟩ := HRW.out.1.open_
        go_wp2_with fail
        go_meet
        exact ⟨rfl, HB⟩
    case rest =>
      clear HB
      obtain ⟨rfl, HB⟩ := hcut
      clear HV HZ1 HF HRS1 HRS2 H3 HP
      go_wp2_with fail
      refine (draw_LastSeen v0 m _ (HC.out.below HB.out)).mono ?_
      rintro e w' ⟨p, j, rfl, hj, hr, hl, hb⟩
      replace HB := Lib.hid (step_ HB.out (Nat.le_refl _) hb)
      have hal : Below w'.heap.size w' (w'.alloc (.cells #[.int .i64 p.clock, .bool p.closed, .slice p.a p.n p.c] 24)) := below_alloc (Below.refl _ _) _
      have H8 := Lib.hid (show LitAt (w'.alloc (.cells #[.int .i64 p.clock, .bool p.closed, .slice p.a p.n p.c] 24)) w'.heap.size 24 p.lst from LitAt.new _ _ p.lst _ rfl)
      have HP := Lib.hid (RaceR.below hr hal)
      replace HB := Lib.hid (step_ HB.out (Nat.le_refl _) hal)
      clear hr hb
      go_upto_region 9 with fail
      generalize w'.alloc (.cells #[.int .i64 p.clock, .bool p.closed, .slice p.a p.n p.c] 24) = W1 at *
      generalize w'.heap.size = b8 at *
      have HI := Lib.hid (show ∀ W, p.In W → _ from fun W hW => impl_LastSeen p p.k j W rfl hW (by unfold I64; omega))
      have HJ := Lib.hid (show ∀ W, p.In W → _ from fun W hW => spec_LastSeen p p.k j W rfl hW (by unfold I64; omega))
      have HF := Lib.hid (@seen_ask p.k j)
      generalize (lsV p.k j).1 = n1 at HI HJ
      generalize (lsV p.k j).2.1 = tm at HI HJ HF
      generalize (lsV p.k j).2.2 = ok at HI HJ HF
      obtain ⟨a0, a1, a2⟩ := race_cells H8.out
      go_wp2_with fail
      refine (HI.out _ (RaceR.s HP.out)).mono ?_
      rintro e w' ⟨rfl, hb⟩
      replace HB := Lib.hid (step_ HB.out (Nat.le_refl _) hb)
      replace H8 := Lib.hid (H8.out.below hb)
      replace HP := Lib.hid (RaceR.below HP.out hb)
      clear a0 a1 a2 hb HI hal hl
      obtain ⟨a0, a1, a2⟩ := race_cells H8.out
      go_wp2_with fail
      refine (HJ.out _ (RaceR.s HP.out)).mono ?_
      rintro e w' ⟨rfl, hb⟩
      replace HB := Lib.hid (step_ HB.out (Nat.le_refl _) hb)
      replace H8 := Lib.hid (H8.out.below hb)
      replace HP := Lib.hid (RaceR.below HP.out hb)
      clear a0 a1 a2 hb HJ
      go_upto_region 11 with fail
      go_cut [120] (fun tv wx => tv = .bool false ∧ Hid (Below w.heap.size w wx))
      case first =>
        cases ok with
        | false =>
          go_wp2_with fail
          go_meet
          exact ⟨rfl, HB⟩
        | true =>
          obtain ⟨i, hi, rfl, h1, h2⟩ := HF.out rfl
          obtain ⟨cl, cd, A, n, c, zs⟩ := p
          have hi' : i < zs.length := by simpa [Race.k] using hi
          obtain ⟨q, cap, he, _, _, _⟩ := Row.form HP.out.1 (by simp; omega)
          simp only [Race.sv, Value.slice.injEq, List.length_map] at he
          obtain ⟨rfl, rfl, rfl⟩ := he
          have hcs := (EntR.cells HP.out hi').2.2.1
          have e1 : ¬ tm < zs[i].card.k.start := by
            have : zs[i].card.k.start ≤ tm := by simpa [Race.k, Ent.k] using h1
            omega
          have e2 : ¬ cl < tm := by
            have : tm ≤ cl := h2
            omega
          have hii : (i : Int) < (zs.length : Int) := by omega
          have hi0 : (0 : Int) ≤ (i : Int) := by omega
          obtain ⟨a0, a1, a2⟩ := race_cells H8.out
          clear hi h1 h2 HF
          go_wp2_with fail
          go_meet
          exact ⟨rfl, HB⟩
      case rest =>
        clear HB
        obtain ⟨rfl, HB⟩ := hcut
        clear HF H8 HP hj
        go_wp2_with fail
        refine (draw_StateCounts v0 m _ (HC.out.below HB.out)).mono ?_
        rintro e w' ⟨p, rfl, hr, hl, hb⟩
        replace HB := Lib.hid (step_ HB.out (Nat.le_refl _) hb)
        have hal : Below w'.heap.size w' (w'.alloc (.cells #[.int .i64 p.clock, .bool p.closed, .slice p.a p.n p.c] 24)) := below_alloc (Below.refl _ _) _
        have H16 := Lib.hid (show LitAt (w'.alloc (.cells #[.int .i64 p.clock, .bool p.closed, .slice p.a p.n p.c] 24)) w'.heap.size 24 p.lst from LitAt.new _ _ p.lst _ rfl)
        have HP := Lib.hid (RaceR.below hr hal)
        replace HB := Lib.hid (step_ HB.out (Nat.le_refl _) hal)
        clear hr hb
        go_upto_region 14 with fail
        generalize w'.alloc (.cells #[.int .i64 p.clock, .bool p.closed, .slice p.a p.n p.c] 24) = W1 at *
        generalize w'.heap.size = b16 at *
        have hpn := (RaceR.s HP.out).len
        have hlk : p.k.field.length = p.zs.length := by simp [Race.k]
        have HI := Lib.hid (show ∀ W, p.In W → _ from fun W hW => impl_StateCounts p p.k W rfl hW)
        have HJ := Lib.hid (show ∀ W, p.In W → _ from fun W hW => spec_StateCounts p p.k W rfl hW)
        have HF := Lib.hid (show goodRace p.k = true → (stcV p.k).sum = (p.n : Int) ∧ ∀ x ∈ stcV p.k, 0 ≤ x ∧ x ≤ 1000 from fun h => ⟨by rw [(stcV_good h).2.1, hlk, hpn], (stcV_good h).2.2.2⟩)
        have hsl := stcV_len p.k
        generalize goodRace p.k = ok at HI HJ HF
        generalize stcV p.k = sa at HI HJ HF hsl
        clear hpn hlk hl hal
        obtain ⟨a0, a1, a2⟩ := race_cells H16.out
        go_wp2_with fail
        refine (HI.out _ (RaceR.s HP.out)).mono ?_
        rintro e w' ⟨r1, rfl, row1, hb⟩
        replace HB := Lib.hid (step_ HB.out (Nat.le_refl _) hb)
        replace H16 := Lib.hid (H16.out.below hb)
        have HR1 := Lib.hid row1
        replace HP := Lib.hid (RaceR.below HP.out hb)
        clear a0 a1 a2 row1 hb HI
        obtain ⟨a0, a1, a2⟩ := race_cells H16.out
        go_wp2_with fail
        refine (HJ.out _ (RaceR.s HP.out)).mono ?_
        rintro e w' ⟨r2, rfl, row2, hb⟩
        replace HB := Lib.hid (step_ HB.out (Nat.le_refl _) hb)
        replace H16 := Lib.hid (H16.out.below hb)
        replace HR1 := Lib.hid (HR1.out.below hb)
        have HR2 := Lib.hid row2
        clear a0 a1 a2 row2 hb HJ HP
        go_upto_region 16 with fail
        go_cut [152] (fun tv wx => tv = .bool false ∧ Hid (Below w.heap.size w wx))
        case first =>
          obtain ⟨a0, a1, a2⟩ := race_cells H16.out
          have hd2 := After.keep a2
          clear a0 a1 a2
          have HQ := Lib.hid (show ∀ t : After w', Calls Try.prog 51 #[r1, r2] t.w' fun e w' => e = .returned (.bool true) ∧ Below t.w'.heap.size t.w' w' from fun t => vInts_refl sa r1 r2 t.w' (Sl.of_flat (HR1.out.below t.hb)) (Sl.of_flat (HR2.out.below t.hb)))
          cases ok with
          | false =>
            go_wp2_with fail
            refine region_after (by kernel_rfl) (by kernel_rfl) ?_
            repeat (any_goals (first | go_big_quiet_step ((go_at_call 51; with_reducible exact Calls.after (v := .bool true) _ (HQ.out _)))  | quiet_step ((go_at_call 51; with_reducible exact Calls.after (v := .bool true) _ (HQ.out _))) | (refine wpQuiet_step (fun K hK => ?_); go_simp; split <;> (refine hK _ ?_; clear hK K))))
            all_goals (refine wpQuiet_nil ?_; intro s)
            go_wp2_with fail
            go_meet
            exact ⟨rfl, Lib.hid (step_ HB.out (Nat.le_refl _) s.hb)⟩
          | true =>
            obtain ⟨f1, f2⟩ := HF.out rfl
            have HU := Lib.hid (show ∀ t : After w', Calls Try.prog 52 #[r1] t.w' fun e w' => e = .returned (.int .i64 (p.n : Int)) ∧ Below t.w'.heap.size t.w' w' from fun t => by
              have := vSum_any sa r1 t.w' (Sl.of_flat (HR1.out.below t.hb)) f2 (by omega)
              rwa [f1] at this)
            clear f1 f2
            go_wp2_with fail
            refine region_after (by kernel_rfl) (by kernel_rfl) ?_
            repeat (any_goals (first | go_big_quiet_step ((first | (go_at_call 51; with_reducible exact Calls.after (v := .bool true) _ (HQ.out _)) | (go_at_call 52; with_reducible exact Calls.after (v := .int .i64 (p.n : Int)) _ (HU.out _))))  | quiet_step ((first | (go_at_call 51; with_reducible exact Calls.after (v := .bool true) _ (HQ.out _)) | (go_at_call 52; with_reducible exact Calls.after (v := .int .i64 (p.n : Int)) _ (HU.out _)))) | (refine wpQuiet_step (fun K hK => ?_); go_simp; split <;> (refine hK _ ?_; clear hK K))))
            all_goals (refine wpQuiet_nil ?_; intro s)
            go_wp2_with fail
            go_meet
            exact ⟨rfl, Lib.hid (step_ HB.out (Nat.le_refl _) s.hb)⟩
        case rest =>
          clear HB
          obtain ⟨rfl, HB⟩ := hcut
          clear HF H16 HR1 HR2 hsl
          go_wp2_with fail
          refine (draw_StillOut v0 m _ (HC.out.below HB.out)).mono ?_
          rintro e w' ⟨p, rfl, hr, hl, hb⟩
          replace HB := Lib.hid (step_ HB.out (Nat.le_refl _) hb)
          have hal : Below w'.heap.size w' (w'.alloc (.cells #[.int .i64 p.clock, .bool p.closed, .slice p.a p.n p.c] 24)) := below_alloc (Below.refl _ _) _
          have H21 := Lib.hid (show LitAt (w'.alloc (.cells #[.int .i64 p.clock, .bool p.closed, .slice p.a p.n p.c] 24)) w'.heap.size 24 p.lst from LitAt.new _ _ p.lst _ rfl)
          have HP := Lib.hid (RaceR.below hr hal)
          replace HB := Lib.hid (step_ HB.out (Nat.le_refl _) hal)
          clear hr hb
          go_upto_region 19 with fail
          generalize w'.alloc (.cells #[.int .i64 p.clock, .bool p.closed, .slice p.a p.n p.c] 24) = W1 at *
          generalize w'.heap.size = b21 at *
          have HI := Lib.hid (show ∀ W, p.In W → _ from fun W hW => impl_StillOut p p.k W rfl hW)
          have HJ := Lib.hid (show ∀ W, p.In W → _ from fun W hW => spec_StillOut p p.k W rfl hW)
          have HF := Lib.hid (show ∀ x ∈ soV p.k, (0 ≤ x ∧ x ≤ 8) ∧ (lsV p.k x).2.2 = true from fun x hx => ⟨so_small hx, out_seen hx⟩)
          have hsl := soV_len p.k
          generalize goodRace p.k = ok at HI HJ
          generalize soV p.k = so at HI HJ HF hsl
          clear hl hal
          obtain ⟨a0, a1, a2⟩ := race_cells H21.out
          go_wp2_with fail
          refine (HI.out _ (RaceR.s HP.out)).mono ?_
          rintro e w' ⟨r1, rfl, row1, hb⟩
          replace HB := Lib.hid (step_ HB.out (Nat.le_refl _) hb)
          replace H21 := Lib.hid (H21.out.below hb)
          have HR1 := Lib.hid row1
          replace HP := Lib.hid (RaceR.below HP.out hb)
          clear a0 a1 a2 row1 hb HI
          obtain ⟨a0, a1, a2⟩ := race_cells H21.out
          go_wp2_with fail
          refine (HJ.out _ (RaceR.s HP.out)).mono ?_
          rintro e w' ⟨r2, rfl, row2, hb⟩
          replace HB := Lib.hid (step_ HB.out (Nat.le_refl _) hb)
          replace H21 := Lib.hid (H21.out.below hb)
          replace HR1 := Lib.hid (HR1.out.below hb)
          have HR2 := Lib.hid row2
          replace HP := Lib.hid (RaceR.below HP.out hb)
          clear a0 a1 a2 row2 hb HJ
          go_wp2_with fail
          refine (vInts_refl so r1 r2 _ (Sl.of_flat HR1.out) (Sl.of_flat HR2.out)).mono ?_
          rintro e w' ⟨rfl, hb⟩
          replace HB := Lib.hid (step_ HB.out (Nat.le_refl _) hb)
          replace H21 := Lib.hid (H21.out.below hb)
          replace HR1 := Lib.hid (HR1.out.below hb)
          replace HP := Lib.hid (RaceR.below HP.out hb)
          clear hb HR2
          obtain ⟨A1, c1, rfl, -, -⟩ := HR1.out.parts
          simp only [List.length_map] at HR1 ⊢
          go_upto_block 0 with fail
          go_wp2_with fail
          go_loopw [26] (fun iv wr => ∃ k : Nat, k ≤ so.length ∧ iv = .int .i64 k ∧ Hid (Below w'.heap.size w' wr))
            (fun iv _ => so.length - (intOf iv).toNat)
          case atStart => exact ⟨0, Nat.zero_le _, rfl, Below.refl _ _⟩
          case round =>
            obtain ⟨k, hkl, rfl, HBL⟩ := hrel
            by_cases hlt : k < so.length
            · have hki : (k : Int) < (so.length : Int) := by omega
              have hk0 : (0 : Int) ≤ (k : Int) := by omega
              obtain ⟨g, cap, he, _, _, _⟩ := (HR1.out.below HBL.out).form (by simp; omega)
              simp only [Value.slice.injEq, List.length_map] at he
              obtain ⟨rfl, _, rfl⟩ := he
              have r1 := (HR1.out.below HBL.out).range (k := k) (by simpa using hlt)
              simp only [List.getElem_map] at r1
              have r2 := int_at r1
              rw [Nat.mul_one] at r2
              have HX := Lib.hid (HF.out _ (List.getElem_mem hlt))
              generalize so[k] = x at r1 r2 HX
              have hd := After.keep r2
              have lz := H21.out.below HBL.out
              have HLS := Lib.hid (show ∀ t : After wr, Calls Try.prog 23 #[.agg #[.int .i64 p.clock, .bool p.closed, .slice p.a p.n p.c], .int .i64 x] t.w' fun e w' => e = .returned (.tuple #[.int .i64 (lsV p.k x).1, .int .i64 (lsV p.k x).2.1, .bool true]) ∧ Below t.w'.heap.size t.w' w' from fun t => by
                have := impl_LastSeen p p.k x t.w' rfl (((RaceR.s HP.out).below HBL.out).below t.hb) (by have := HX.out.1; unfold I64; omega)
                rwa [HX.out.2] at this)
              generalize (lsV p.k x).1 = n1 at HLS
              generalize (lsV p.k x).2.1 = n2 at HLS
              clear r1 r2 HX
              go_wp2_with fail
              refine region_after (by kernel_rfl) (by kernel_rfl) ?_
              repeat (any_goals (first | go_big_quiet_step ((go_at_call 23; with_reducible exact Calls.after (v := .tuple #[.int .i64 n1, .int .i64 n2, .bool true]) _ (HLS.out _))) | (refine Race.qloadImpl rfl _ rfl b21 rfl p lz ?_) | quiet_step ((go_at_call 23; with_reducible exact Calls.after (v := .tuple #[.int .i64 n1, .int .i64 n2, .bool true]) _ (HLS.out _))) | (refine wpQuiet_step (fun K hK => ?_); go_simp; split <;> (refine hK _ ?_; clear hK K))))
              all_goals (refine wpQuiet_nil ?_; intro s)
              go_wp2_with fail
              go_roundw
              case rel => exact ⟨k + 1, by omega, by go_num, step_ HBL.out (Nat.le_refl _) s.hb⟩
              case measure => simp [intOf]; omega
            · have hki : ¬ (k : Int) < (so.length : Int) := by omega
              go_wp2_with fail
              go_ret
              exact ⟨rfl, step_ HB.out (Nat.le_refl _) HBL.out⟩
end Go.Proofs.Ytfmgnbkneccekaa
