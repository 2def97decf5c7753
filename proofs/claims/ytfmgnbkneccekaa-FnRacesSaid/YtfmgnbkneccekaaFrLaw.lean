/- The walk of the law FnRaces: it returns true. No condition. -/
import Derived.Test.YtfmgnbkneccekaaFrQ
import Derived.Test.YtfmgnbkneccekaaDrRc
import Derived.Test.YtfmgnbkneccekaaVRd
import Derived.Deep.LoopGhost
namespace Go.Proofs.Ytfmgnbkneccekaa
open Go Go.RowKit

theorem race_cells {w : World} {g : Nat} {p : Race} (h : LitAt w g 24 p.lst) : w.cell? ⟨g, 0, none⟩ = some (.int .i64 p.clock) ∧ w.cell? ⟨g, 1, none⟩ = some (.bool p.closed) ∧ w.cell? ⟨g, 2, none⟩ = some (.slice p.a p.n p.c) := by
  have r := h.range
  have b0 := r 0 _ rfl
  have b1 := r 1 _ rfl
  have b2 := r 2 _ rfl
  simp only [Nat.zero_add] at b0 b1 b2
  exact ⟨b0, b1, b2⟩
theorem step_cells {w : World} {g : Nat} {s : Step} (h : LitAt w g 53 s.lst) : w.cell? ⟨g, 0, none⟩ = some (.int .i64 s.kind) ∧ w.cell? ⟨g, 1, none⟩ = some (.int .i64 s.entrant) ∧ w.cell? ⟨g, 2, none⟩ = some (.int .i64 s.value) := by
  have r := h.range
  have b0 := r 0 _ rfl
  have b1 := r 1 _ rfl
  have b2 := r 2 _ rfl
  simp only [Nat.zero_add] at b0 b1 b2
  exact ⟨b0, b1, b2⟩
theorem Race.qloadImpl {w : World} {ops : Array Oper} {rest : List Oper} {o : Oper} {a : Act} {Q : Act → Prop} (hw : Region.wanted o (yielded ops a.tmps) = true) (x : Operand) (ho : o.op = .load 24 x) (b : Nat) (hx : a.eval x = .pointer (some ⟨b, 0, none⟩)) (p : Race) (hl : LitAt w b 24 p.lst)
    (h : wpQuiet Try.prog ops (Cl w) Q rest (a.put o.dst (.agg #[.int .i64 p.clock, .bool p.closed, .slice p.a p.n p.c]))) : wpQuiet Try.prog ops (Cl w) Q (o :: rest) a := stRaceImpl.qload hw x ho b 0 hx p.lst rfl hl.range h
/-- A step made within a law's loop: the race behind it lies in a variable of its own. -/
def StepN (bs g : Nat) (wr : World) (p' : Race) (s : Step) (W : World) (B : Nat) (q : Race) : Prop :=
  q.k = strV p'.k s ∧ RaceR bs W q ∧ W.rangeAt B 0 q.lst ∧ Below wr.heap.size wr W ∧ ∀ k, RaceBlk q k → k ≠ g
theorem join6 {C : Prop} {F P : World → Nat → Race → Prop} (h : (∀ W B p, F W B p → P W B p) → C) (k : ∀ W B p, F W B p → P W B p) : C := h k
theorem RaceAt.put3 {bs g : Nat} {W : World} {p q : Race} (h : RaceAt bs W g p) (hr : RaceR bs W q) (hne : ∀ k, RaceBlk q k → k ≠ g) : RaceAt bs (((W.setCell ⟨g, 0, none⟩ (.int .i64 q.clock)).setCell ⟨g, 1, none⟩ (.bool q.closed)).setCell ⟨g, 2, none⟩ (.slice q.a q.n q.c)) g q :=
  ⟨((h.1.put_ 0 (.int .i64 q.clock)).put_ 1 (.bool q.closed)).put_ 2 (.slice q.a q.n q.c), ((hr.setFar hne _).setFar hne _).setFar hne _, hne⟩
theorem races_ask2 {k : RaceK} {s : Step} (h : strB k s = true) : goodRace k = true ∧ goodRace (strV k s) = true ∧ k.closed = false ∧ k.clock ≤ (strV k s).clock ∧ (stcV k).sum = (stcV (strV k s)).sum ∧ ((strV k s).closed = true → soV (strV k s) = []) ∧ ((stcV k).length = 5 ∧ ∀ x ∈ stcV k, 0 ≤ x ∧ x ≤ 1000) ∧ (stcV (strV k s)).length = 5 ∧ (∀ x ∈ stcV (strV k s), 0 ≤ x ∧ x ≤ 1000) ∧ (stcV (strV k s)).getD 1 0 = ((soV (strV k s)).length : Int) := by
  obtain ⟨h1, h2, h3, h4, h5, h6⟩ := races_ask h
  obtain ⟨a1, _, _, a4⟩ := stcV_good h1
  obtain ⟨b1, _, b3, b4⟩ := stcV_good h2
  exact ⟨h1, h2, h3, h4, h5, h6, ⟨a1, a4⟩, b1, b4, b3⟩
theorem run_step {k : RaceK} {ss : List Step} {j : Nat} (h : j < ss.length) (g : goodRace k = true) :
    (strB (runV k (ss.take j)) ss[j] = true → strV (runV k (ss.take j)) ss[j] = runV k (ss.take (j + 1)) ∧ runN k (ss.take (j + 1)) = runN k (ss.take j) + 1) ∧
    (strB (runV k (ss.take j)) ss[j] = false → runV k (ss.take j) = runV k (ss.take (j + 1)) ∧ runN k (ss.take (j + 1)) = runN k (ss.take j)) := by
  have hg : goodRace (runV k (ss.take j)) = true := goodRace_true (runV_good (goodRace_iff.1 g) _)
  refine ⟨fun hs => ?_, fun hs => ?_⟩
  · have hb := (strB_good hs).2
    rw [strV_yes hs, runV_take h, runN_take h, stepN_yes hb, if_pos hb]
    exact ⟨rfl, rfl⟩
  · have hb : stepB (runV k (ss.take j)) ss[j] = false := by simpa [strB, hg] using hs
    rw [runV_take h, runN_take h, stepN_no hb, hb]
    exact ⟨rfl, rfl⟩
set_option maxRecDepth 100000 in
set_option maxHeartbeats 16000000 in
theorem fnRaces_walk (v0 : Value) (m : Nat) (w : World) (h0 : CodeS w v0 m) :
    Calls Try.prog 12 #[v0] w fun e w' => e = .returned (.bool true) ∧ Below w.heap.size w w' := by
  obtain ⟨q, hq⟩ : ∃ q, q = decide (65536 < m) := ⟨_, rfl⟩
  have HC := Lib.hid h0
  have HV := Lib.hid (vBig_any v0 m q w h0 hq)
  have HB := Lib.hid (Below.refl w.heap.size w)
  clear hq h0
  cases q with
  | true =>
    go_enter Try.func12, Try.ntmps12
    go_wp2_with fail
    refine (HV.out).mono ?_
    rintro e w' ⟨rfl, hb⟩
    replace HB := Lib.hid (step_ HB.out (Nat.le_refl _) hb)
    go_wp2_with fail
    go_ret
    exact ⟨rfl, HB.out⟩
  | false =>
    go_enter Try.func12, Try.ntmps12
    go_wp2_with fail
    refine (HV.out).mono ?_
    rintro e w' ⟨rfl, hb⟩
    replace HB := Lib.hid (step_ HB.out (Nat.le_refl _) hb)
    clear hb HV
    go_wp2_with fail
    refine (draw_StepRace v0 m _ (HC.out.below HB.out)).mono ?_
    rintro e w' ⟨p, s, rfl, hs, hr, hl, hb⟩
    replace HB := Lib.hid (step_ HB.out (Nat.le_refl _) hb)
    have HI := Lib.hid (show ∀ W, p.In W → _ from fun W hW => impl_StepRace p p.k s W rfl hW hs.ok)
    have HJ := Lib.hid (show ∀ W, p.In W → _ from fun W hW => spec_StepRace p p.k s W rfl hW hs.ok)
    have HF := Lib.hid (@races_ask2 p.k s)
    generalize strB p.k s = ok at HI HJ HF
    generalize strV p.k s = kv at HI HJ HF
    have hal : Below w'.heap.size w' ((w'.alloc (.cells #[.int .i64 p.clock, .bool p.closed, .slice p.a p.n p.c] 24)).alloc (.cells #[.int .i64 s.kind, .int .i64 s.entrant, .int .i64 s.value] 53)) := below_alloc (below_alloc (Below.refl _ _) _) _
    have H3 := Lib.hid (show LitAt ((w'.alloc (.cells #[.int .i64 p.clock, .bool p.closed, .slice p.a p.n p.c] 24)).alloc (.cells #[.int .i64 s.kind, .int .i64 s.entrant, .int .i64 s.value] 53)) w'.heap.size 24 p.lst from LitAt.alloc (LitAt.new _ _ p.lst _ rfl) _)
    have H4 := Lib.hid (show LitAt ((w'.alloc (.cells #[.int .i64 p.clock, .bool p.closed, .slice p.a p.n p.c] 24)).alloc (.cells #[.int .i64 s.kind, .int .i64 s.entrant, .int .i64 s.value] 53)) (w'.heap.size + 1) 53 s.lst from LitAt.new _ _ s.lst _ (by simp))
    have HP := Lib.hid ((RaceR.s hr).below hal)
    replace HB := Lib.hid (step_ HB.out (Nat.le_refl _) hal)
    clear hs hr hl hb hal
    go_upto_region 4 with fail
    generalize (w'.alloc (.cells #[.int .i64 p.clock, .bool p.closed, .slice p.a p.n p.c] 24)).alloc (.cells #[.int .i64 s.kind, .int .i64 s.entrant, .int .i64 s.value] 53) = W1 at *
    generalize w'.heap.size + 1 = b4 at *
    generalize w'.heap.size = b3 at *
    obtain ⟨a0, a1, a2⟩ := race_cells H3.out
    obtain ⟨s0, s1, s2⟩ := step_cells H4.out
    go_wp2_with fail
    refine (HI.out _ HP.out).mono ?_
    rintro e w' ⟨p1, rfl, hk1, hr1, hb⟩
    have hal : Below w'.heap.size w' (w'.alloc (.cells #[.int .i64 p1.clock, .bool p1.closed, .slice p1.a p1.n p1.c] 24)) := below_alloc (Below.refl _ _) _
    have H5 := Lib.hid (show LitAt (w'.alloc (.cells #[.int .i64 p1.clock, .bool p1.closed, .slice p1.a p1.n p1.c] 24)) w'.heap.size 24 p1.lst from LitAt.new _ _ p1.lst _ rfl)
    have HP1 := Lib.hid ((RaceR.s hr1).below hal)
    have hb2 := step_ hb (Nat.le_refl _) hal
    replace HB := Lib.hid (step_ HB.out (Nat.le_refl _) hb2)
    clear hr1 hb hal
    replace H3 := Lib.hid (H3.out.below hb2)
    replace H4 := Lib.hid (H4.out.below hb2)
    replace HP := Lib.hid (HP.out.below hb2)
    clear a0 a1 a2 s0 s1 s2 hb2 HI
    go_upto_region 5 with fail
    generalize w'.alloc (.cells #[.int .i64 p1.clock, .bool p1.closed, .slice p1.a p1.n p1.c] 24) = W1 at *
    generalize w'.heap.size = b5 at *
    obtain ⟨a0, a1, a2⟩ := race_cells H3.out
    obtain ⟨s0, s1, s2⟩ := step_cells H4.out
    go_wp2_with fail
    refine (HJ.out _ HP.out).mono ?_
    rintro e w' ⟨p2, rfl, hk2, hr2, hb⟩
    have hal : Below w'.heap.size w' (w'.alloc (.cells #[.int .i64 p2.clock, .bool p2.closed, .slice p2.a p2.n p2.c] 24)) := below_alloc (Below.refl _ _) _
    have H7 := Lib.hid (show LitAt (w'.alloc (.cells #[.int .i64 p2.clock, .bool p2.closed, .slice p2.a p2.n p2.c] 24)) w'.heap.size 24 p2.lst from LitAt.new _ _ p2.lst _ rfl)
    have HP2 := Lib.hid ((RaceR.s hr2).below hal)
    have hb2 := step_ hb (Nat.le_refl _) hal
    replace HB := Lib.hid (step_ HB.out (Nat.le_refl _) hb2)
    clear hr2 hb hal
    replace H3 := Lib.hid (H3.out.below hb2)
    replace H5 := Lib.hid (H5.out.below hb2)
    replace HP := Lib.hid (HP.out.below hb2)
    replace HP1 := Lib.hid (HP1.out.below hb2)
    clear a0 a1 a2 s0 s1 s2 hb2 HJ H4
    go_upto_region 6 with fail
    generalize w'.alloc (.cells #[.int .i64 p2.clock, .bool p2.closed, .slice p2.a p2.n p2.c] 24) = W1 at *
    generalize w'.heap.size = b7 at *
    have HV := Lib.hid (show ∀ t : After W1, Calls Try.prog 55 #[.agg #[.int .i64 p1.clock, .bool p1.closed, .slice p1.a p1.n p1.c], .agg #[.int .i64 p2.clock, .bool p2.closed, .slice p2.a p2.n p2.c]] t.w' fun e w' => e = .returned (.bool true) ∧ Below t.w'.heap.size t.w' w' from fun t => vRace_any p1 p2 t.w' (hk1.trans hk2.symm) (HP1.out.below t.hb) (HP2.out.below t.hb))
    have HG1 := Lib.hid (show ∀ t : After W1, Calls Try.prog 21 #[.agg #[.int .i64 p.clock, .bool p.closed, .slice p.a p.n p.c]] t.w' fun e w' => e = .returned (.bool (goodRace p.k)) ∧ Below t.w'.heap.size t.w' w' from fun t => impl_IsRace p p.k t.w' rfl (HP.out.below t.hb))
    have HG2 := Lib.hid (show ∀ t : After W1, Calls Try.prog 19 #[.agg #[.int .i64 p.clock, .bool p.closed, .slice p.a p.n p.c]] t.w' fun e w' => e = .returned (.bool (goodRace p.k)) ∧ Below t.w'.heap.size t.w' w' from fun t => spec_IsRace p p.k t.w' rfl (HP.out.below t.hb))
    have HG3 := Lib.hid (show ∀ t : After W1, Calls Try.prog 21 #[.agg #[.int .i64 p1.clock, .bool p1.closed, .slice p1.a p1.n p1.c]] t.w' fun e w' => e = .returned (.bool (goodRace kv)) ∧ Below t.w'.heap.size t.w' w' from fun t => impl_IsRace p1 kv t.w' hk1 (HP1.out.below t.hb))
    have HSO := Lib.hid (show ∀ W, p1.In W → _ from fun W hW => impl_StillOut p1 kv W hk1 hW)
    have HSA := Lib.hid (show ∀ W, p.In W → _ from fun W hW => impl_StateCounts p p.k W rfl hW)
    have HSB := Lib.hid (show ∀ W, p1.In W → _ from fun W hW => impl_StateCounts p1 kv W hk1 hW)
    have HK1 := Lib.hid hk1
    have l3 := H3.out
    have l5 := H5.out
    have l7 := H7.out
    clear hk1 hk2 HP2 H7
    generalize goodRace p.k = gr at HG1 HG2 HF HSA
    generalize goodRace kv = gv at HG3 HF HSO HSB
    generalize soV kv = so at HF HSO
    generalize stcV p.k = sa at HF HSA
    generalize stcV kv = sb at HF HSB
    have hgv : ok = true → gv = true := fun h => (HF.out h).2.1
    go_cut [75] (fun tv wx => tv = .bool false ∧ Hid (Below W1.heap.size W1 wx))
    case first =>
      cases ok with
      | false =>
        go_wp2_with fail
        refine region_after (by kernel_rfl) (by kernel_rfl) ?_
        repeat (any_goals (first | go_big_quiet_step ((first | (go_at_call 55; with_reducible exact Calls.after (v := .bool true) _ (HV.out _)) | (go_at_call 21; with_reducible exact Calls.after (v := .bool gr) _ (HG1.out _)) | (go_at_call 21; with_reducible exact Calls.after (v := .bool true) _ (HG3.out _)) | (go_at_call 19; with_reducible exact Calls.after (v := .bool gr) _ (HG2.out _)))) | (refine Race.qloadImpl rfl _ rfl b3 rfl p l3 ?_) | (refine Race.qloadImpl rfl _ rfl b5 rfl p1 l5 ?_) | (refine Race.qloadImpl rfl _ rfl b7 rfl p2 l7 ?_) | quiet_step ((first | (go_at_call 55; with_reducible exact Calls.after (v := .bool true) _ (HV.out _)) | (go_at_call 21; with_reducible exact Calls.after (v := .bool gr) _ (HG1.out _)) | (go_at_call 21; with_reducible exact Calls.after (v := .bool true) _ (HG3.out _)) | (go_at_call 19; with_reducible exact Calls.after (v := .bool gr) _ (HG2.out _)))) | (refine wpQuiet_step (fun K hK => ?_); go_simp; split <;> (refine hK _ ?_; clear hK K))))
        all_goals (refine wpQuiet_nil ?_; intro s)
        go_wp2_with fail
        go_meet
        exact ⟨rfl, Lib.hid s.hb⟩
      | true =>
        obtain rfl := hgv rfl
        go_wp2_with fail
        refine region_after (by kernel_rfl) (by kernel_rfl) ?_
        repeat (any_goals (first | go_big_quiet_step ((first | (go_at_call 55; with_reducible exact Calls.after (v := .bool true) _ (HV.out _)) | (go_at_call 21; with_reducible exact Calls.after (v := .bool gr) _ (HG1.out _)) | (go_at_call 21; with_reducible exact Calls.after (v := .bool true) _ (HG3.out _)) | (go_at_call 19; with_reducible exact Calls.after (v := .bool gr) _ (HG2.out _)))) | (refine Race.qloadImpl rfl _ rfl b3 rfl p l3 ?_) | (refine Race.qloadImpl rfl _ rfl b5 rfl p1 l5 ?_) | (refine Race.qloadImpl rfl _ rfl b7 rfl p2 l7 ?_) | quiet_step ((first | (go_at_call 55; with_reducible exact Calls.after (v := .bool true) _ (HV.out _)) | (go_at_call 21; with_reducible exact Calls.after (v := .bool gr) _ (HG1.out _)) | (go_at_call 21; with_reducible exact Calls.after (v := .bool true) _ (HG3.out _)) | (go_at_call 19; with_reducible exact Calls.after (v := .bool gr) _ (HG2.out _)))) | (refine wpQuiet_step (fun K hK => ?_); go_simp; split <;> (refine hK _ ?_; clear hK K))))
        all_goals (refine wpQuiet_nil ?_; intro s)
        go_wp2_with fail
        go_meet
        exact ⟨rfl, Lib.hid s.hb⟩
    case rest =>
      obtain ⟨rfl, hbc⟩ := hcut
      have hb := hbc.out
      replace HB := Lib.hid (step_ HB.out (Nat.le_refl _) hb)
      replace H3 := Lib.hid (H3.out.below hb)
      replace H5 := Lib.hid (H5.out.below hb)
      replace HP := Lib.hid (HP.out.below hb)
      replace HP1 := Lib.hid (HP1.out.below hb)
      clear hb hbc l3 l5 l7 HV HG1 HG2 HG3 hgv
      go_upto_if 76 with fail
      go_cut [] (fun wx => Hid (Below w.heap.size w wx))
      case first =>
        cases ok with
        | false =>
          go_wp2_with fail
          go_meet
          exact HB
        | true =>
          obtain ⟨g1, g2, o1, o2, o3, o4, ⟨o5, o6⟩, o7, o8, o9⟩ := HF.out rfl
          subst g1
          subst g2
          have hcl : p1.closed = kv.closed := congrArg RaceK.closed HK1.out
          have hck : p1.clock = kv.clock := congrArg RaceK.clock HK1.out
          rw [← hcl] at o4
          rw [← hck] at o2
          have HO6 := Lib.hid o6
          have HO8 := Lib.hid o8
          have HO3 := Lib.hid o3
          have HO5 := Lib.hid o5
          have HO7 := Lib.hid o7
          have HO9 := Lib.hid o9
          have HO4 := Lib.hid o4
          have HO2 := Lib.hid (show ¬ p1.clock < p.clock from fun h => by have : p.clock ≤ p1.clock := o2; omega)
          have HO1 := Lib.hid (show p.closed = false from o1)
          clear HF HK1 hcl hck o1 o2 o3 o4 o5 o6 o7 o8 o9
          obtain ⟨a0, a1, a2⟩ := race_cells H5.out
          go_wp2_with fail
          refine (HSO.out _ HP1.out).mono ?_
          rintro e w' ⟨r9, rfl, row9, hb⟩
          replace HB := Lib.hid (step_ HB.out (Nat.le_refl _) hb)
          replace H3 := Lib.hid (H3.out.below hb)
          replace H5 := Lib.hid (H5.out.below hb)
          replace HP := Lib.hid (HP.out.below hb)
          replace HP1 := Lib.hid (HP1.out.below hb)
          have HR9 := Lib.hid row9
          clear a0 a1 a2 hb row9 HSO
          obtain ⟨a0, a1, a2⟩ := race_cells H3.out
          go_wp2_with fail
          refine (HSA.out _ HP.out).mono ?_
          rintro e w' ⟨r11, rfl, row11, hb⟩
          replace HB := Lib.hid (step_ HB.out (Nat.le_refl _) hb)
          replace H3 := Lib.hid (H3.out.below hb)
          replace H5 := Lib.hid (H5.out.below hb)
          replace HP1 := Lib.hid (HP1.out.below hb)
          replace HR9 := Lib.hid (HR9.out.below hb)
          have HR11 := Lib.hid row11
          clear a0 a1 a2 hb row11 HSA HP
          obtain ⟨a0, a1, a2⟩ := race_cells H5.out
          go_wp2_with fail
          refine (HSB.out _ HP1.out).mono ?_
          rintro e w' ⟨r13, rfl, row13, hb⟩
          replace HB := Lib.hid (step_ HB.out (Nat.le_refl _) hb)
          replace H3 := Lib.hid (H3.out.below hb)
          replace H5 := Lib.hid (H5.out.below hb)
          replace HR9 := Lib.hid (HR9.out.below hb)
          replace HR11 := Lib.hid (HR11.out.below hb)
          have HR13 := Lib.hid row13
          clear a0 a1 a2 hb row13 HSB HP1
          obtain ⟨A9, c9, rfl, -, -⟩ := HR9.out.parts
          obtain ⟨A11, c11, rfl, -, -⟩ := HR11.out.parts
          obtain ⟨g, c13, rfl, -, -, -⟩ := HR13.out.form (by simp; have := HO7.out; omega)
          simp only [List.length_map, HO5.out, HO7.out] at HR9 HR11 HR13 ⊢
          have HU1 := Lib.hid (show ∀ W, Sl (Flat ints) 1 W (.slice A11 5 c11) sa → _ from fun W hW => vSum_any sa _ W hW HO6.out (by have := HO5.out; omega))
          have HU2 := Lib.hid (show ∀ W, Sl (Flat ints) 1 W (.slice (some ⟨g, 0, none⟩) 5 c13) sb → _ from fun W hW => vSum_any sb _ W hW HO8.out (by have := HO7.out; omega))
          have HCE := Lib.hid (show ∀ W base, Row base 3 1 W (.slice (some ⟨g, 0, none⟩) 5 c13) (sb.map ints) → W.cell? ⟨g, 1, none⟩ = some (.int .i64 (so.length : Int)) from fun W base hW => by
            have r1 := hW.range (k := 1) (by simp; have := HO7.out; omega)
            simp only [List.getElem_map] at r1
            have r2 := int_at r1
            have e : sb[1]'(by have := HO7.out; omega) = (so.length : Int) := by
              have := HO9.out
              rw [List.getD_eq_getElem?_getD, List.getElem?_eq_getElem (by have := HO7.out; omega)] at this
              simpa using this
            rw [e] at r2
            simpa using r2)
          rw [HO3.out] at HU1
          have hclo := HO1.out
          have hcc := HO2.out
          by_cases hc : p1.closed = true
          · have hso : so = [] := HO4.out hc
            subst hso
            obtain ⟨a0, a1, a2⟩ := race_cells H5.out
            go_wp2_with fail
            refine (HU1.out _ (Sl.of_flat HR11.out)).mono ?_
            rintro e w' ⟨rfl, hb⟩
            replace HB := Lib.hid (step_ HB.out (Nat.le_refl _) hb)
            replace H3 := Lib.hid (H3.out.below hb)
            replace H5 := Lib.hid (H5.out.below hb)
            replace HR13 := Lib.hid (HR13.out.below hb)
            clear a0 a1 a2 hb
            go_wp2_with fail
            refine (HU2.out _ (Sl.of_flat HR13.out)).mono ?_
            rintro e w' ⟨rfl, hb⟩
            replace HB := Lib.hid (step_ HB.out (Nat.le_refl _) hb)
            replace H3 := Lib.hid (H3.out.below hb)
            replace H5 := Lib.hid (H5.out.below hb)
            replace HR13 := Lib.hid (HR13.out.below hb)
            obtain ⟨a0, a1, a2⟩ := race_cells H5.out
            obtain ⟨b0, b1, b2⟩ := race_cells H3.out
            have hce := HCE.out _ _ HR13.out
            go_wp2_with fail
            go_meet
            exact HB
          · have hc' : p1.closed = false := by simpa using hc
            obtain ⟨a0, a1, a2⟩ := race_cells H5.out
            go_wp2_with fail
            refine (HU1.out _ (Sl.of_flat HR11.out)).mono ?_
            rintro e w' ⟨rfl, hb⟩
            replace HB := Lib.hid (step_ HB.out (Nat.le_refl _) hb)
            replace H3 := Lib.hid (H3.out.below hb)
            replace H5 := Lib.hid (H5.out.below hb)
            replace HR13 := Lib.hid (HR13.out.below hb)
            clear a0 a1 a2 hb
            go_wp2_with fail
            refine (HU2.out _ (Sl.of_flat HR13.out)).mono ?_
            rintro e w' ⟨rfl, hb⟩
            replace HB := Lib.hid (step_ HB.out (Nat.le_refl _) hb)
            replace H3 := Lib.hid (H3.out.below hb)
            replace H5 := Lib.hid (H5.out.below hb)
            replace HR13 := Lib.hid (HR13.out.below hb)
            obtain ⟨a0, a1, a2⟩ := race_cells H5.out
            obtain ⟨b0, b1, b2⟩ := race_cells H3.out
            have hce := HCE.out _ _ HR13.out
            go_wp2_with fail
            go_meet
            exact HB
      case rest =>
        have HB := hcut
        clear hcut H3 H5 HP HP1 HF HK1
        go_wp2_with fail
        refine (draw_RunRace v0 m _ (HC.out.below HB.out)).mono ?_
        rintro e w' ⟨p, ss, v, rfl, hsl, hd, hlen, hr, hl, hb⟩
        replace HB := Lib.hid (step_ HB.out (Nat.le_refl _) hb)
        have HBW := Lib.hid (show wc.heap.size ≤ w'.heap.size from hb.size)
        have HI := Lib.hid (show ∀ W, p.In W → Sl (Flat Step.lst) 3 W v ss → _ from fun W hW hS => impl_RunRace p p.k ss v W rfl hW hS (fun s hs => (hd s hs).ok))
        have HJ := Lib.hid (show ∀ W, p.In W → Sl (Flat Step.lst) 3 W v ss → _ from fun W hW hS => spec_RunRace p p.k ss v W rfl hW hS (fun s hs => (hd s hs).ok))
        have HDS := Lib.hid (show ∀ s ∈ ss, Step.ok s from fun s hs => (hd s hs).ok)
        obtain ⟨okr, hokr⟩ : ∃ b, rrB p.k ss = b := ⟨_, rfl⟩
        obtain ⟨nr, hnr⟩ : ∃ n, rrN p.k ss = n := ⟨_, rfl⟩
        simp only [hokr, hnr] at HI HJ
        have HOK := Lib.hid hokr
        have HNR := Lib.hid hnr
        have hal : Below w'.heap.size w' (w'.alloc (.cells #[.int .i64 p.clock, .bool p.closed, .slice p.a p.n p.c] 24)) := below_alloc (Below.refl _ _) _
        have H15 := Lib.hid (show LitAt (w'.alloc (.cells #[.int .i64 p.clock, .bool p.closed, .slice p.a p.n p.c] 24)) w'.heap.size 24 p.lst from LitAt.new _ _ p.lst _ rfl)
        have HP := Lib.hid (RaceR.below hr hal)
        have HS := Lib.hid (Sl.below (Flat.keeps _) hsl hal)
        replace HB := Lib.hid (step_ HB.out (Nat.le_refl _) hal)
        replace HBW := Lib.hid (Nat.le_trans HBW.out hal.size)
        clear hokr hnr hsl hd hr hl hb hal
        go_upto_region 15 with fail
        generalize w'.alloc (.cells #[.int .i64 p.clock, .bool p.closed, .slice p.a p.n p.c] 24) = W1 at *
        generalize w'.heap.size = b15 at *
        obtain ⟨a0, a1, a2⟩ := race_cells H15.out
        go_wp2_with fail
        refine (HI.out _ (RaceR.s HP.out) HS.out).mono ?_
        rintro e w' ⟨p1, rfl, hk1, hr1, hb⟩
        have hal : Below w'.heap.size w' (w'.alloc (.cells #[.int .i64 p1.clock, .bool p1.closed, .slice p1.a p1.n p1.c] 24)) := below_alloc (Below.refl _ _) _
        have H17 := Lib.hid (show LitAt (w'.alloc (.cells #[.int .i64 p1.clock, .bool p1.closed, .slice p1.a p1.n p1.c] 24)) w'.heap.size 24 p1.lst from LitAt.new _ _ p1.lst _ rfl)
        have HP1 := Lib.hid ((RaceR.s hr1).below hal)
        have hb2 := step_ hb (Nat.le_refl _) hal
        replace HB := Lib.hid (step_ HB.out (Nat.le_refl _) hb2)
        clear hr1 hb hal
        replace H15 := Lib.hid (H15.out.below hb2)
        replace HP := Lib.hid (RaceR.below HP.out hb2)
        replace HS := Lib.hid (Sl.below (Flat.keeps _) HS.out hb2)
        replace HBW := Lib.hid (Nat.le_trans HBW.out hb2.size)
        clear a0 a1 a2 hb2 HI
        go_upto_region 16 with fail
        generalize w'.alloc (.cells #[.int .i64 p1.clock, .bool p1.closed, .slice p1.a p1.n p1.c] 24) = W1 at *
        generalize w'.heap.size = b17 at *
        obtain ⟨a0, a1, a2⟩ := race_cells H15.out
        go_wp2_with fail
        refine (HJ.out _ (RaceR.s HP.out) HS.out).mono ?_
        rintro e w' ⟨p2, rfl, hk2, hr2, hb⟩
        have hal : Below w'.heap.size w' (w'.alloc (.cells #[.int .i64 p2.clock, .bool p2.closed, .slice p2.a p2.n p2.c] 24)) := below_alloc (Below.refl _ _) _
        have H20 := Lib.hid (show LitAt (w'.alloc (.cells #[.int .i64 p2.clock, .bool p2.closed, .slice p2.a p2.n p2.c] 24)) w'.heap.size 24 p2.lst from LitAt.new _ _ p2.lst _ rfl)
        have HP2 := Lib.hid ((RaceR.s hr2).below hal)
        have hb2 := step_ hb (Nat.le_refl _) hal
        replace HB := Lib.hid (step_ HB.out (Nat.le_refl _) hb2)
        clear hr2 hb hal
        replace H15 := Lib.hid (H15.out.below hb2)
        replace H17 := Lib.hid (H17.out.below hb2)
        replace HP1 := Lib.hid (HP1.out.below hb2)
        replace HP := Lib.hid (RaceR.below HP.out hb2)
        replace HS := Lib.hid (Sl.below (Flat.keeps _) HS.out hb2)
        replace HBW := Lib.hid (Nat.le_trans HBW.out hb2.size)
        clear a0 a1 a2 hb2 HJ
        go_upto_region 17 with fail
        generalize w'.alloc (.cells #[.int .i64 p2.clock, .bool p2.closed, .slice p2.a p2.n p2.c] 24) = W1 at *
        generalize w'.heap.size = b20 at *
        have HV := Lib.hid (vRace_any p1 p2 W1 (hk1.trans hk2.symm) HP1.out HP2.out)
        obtain ⟨a0, a1, a2⟩ := race_cells H17.out
        obtain ⟨c0, c1, c2⟩ := race_cells H20.out
        have HK1 := Lib.hid hk1
        clear hk1 hk2
        go_wp2_with fail
        refine (HV.out).mono ?_
        rintro e w' ⟨rfl, hb⟩
        replace HB := Lib.hid (step_ HB.out (Nat.le_refl _) hb)
        replace H15 := Lib.hid (H15.out.below hb)
        replace H17 := Lib.hid (H17.out.below hb)
        replace HP1 := Lib.hid (HP1.out.below hb)
        replace HP := Lib.hid (HP.out.below hb)
        replace HS := Lib.hid (Sl.below (Flat.keeps _) HS.out hb)
        replace HBW := Lib.hid (Nat.le_trans HBW.out hb.size)
        clear a0 a1 a2 c0 c1 c2 hb HV HP2 H20
        go_upto_if 180 with fail
        go_cut [] (fun wx => Hid (Below w.heap.size w wx))
        case first =>
          cases okr with
          | false =>
            go_wp2_with fail
            go_meet
            exact HB
          | true =>
            have hgr : goodRace p.k = true ∧ rrV p.k ss = runV p.k ss ∧ rrN p.k ss = (runN p.k ss : Int) := by
              have := HOK.out
              refine ⟨by simp only [rrB, Bool.and_eq_true] at this; exact this.1, rrV_yes this, rrN_yes this⟩
            obtain ⟨hg, hrv, hrn⟩ := hgr
            have HGR := Lib.hid hg
            rw [hrv] at HK1
            rw [hrn] at HNR
            clear hrv hrn hg HOK
            have hlt15 := H15.out.lt
            obtain ⟨a0, a1, a2⟩ := race_cells H15.out
            obtain ⟨VA, vc, rfl, hvc, hvm, hvk⟩ := HS.out.open_
            go_upto_block 0 with fail
            clear a0 a1 a2
            have HA := Lib.hid (show RaceAt wc.heap.size (w'.alloc (.cells #[.int .i64 p.clock, .bool p.closed, .slice p.a p.n p.c] 24)) w'.heap.size p from
              ⟨LitAt.new _ _ p.lst _ rfl, RaceR.below HP.out (below_alloc (Below.refl _ _) _), fun k hk => by have := (RaceR.lt HP.out k hk).2; omega⟩)
            have HBL := Lib.hid (show Below w'.heap.size w' (w'.alloc (.cells #[.int .i64 p.clock, .bool p.closed, .slice p.a p.n p.c] 24)) from below_alloc (Below.refl _ _) _)
            have hgs : wc.heap.size ≤ w'.heap.size := HBW.out
            generalize w'.alloc (.cells #[.int .i64 p.clock, .bool p.closed, .slice p.a p.n p.c] 24) = W2 at *
            obtain ⟨g, hgw⟩ : ∃ g, w'.heap.size = g := ⟨_, rfl⟩
            rw [hgw] at HA hgs ⊢
            generalize wc.heap.size = bs at *
            go_cut [24] (fun cv wx => ∃ p' : Race, cv = .int .i64 (runN p.k ss : Int) ∧ Hid (p'.k = runV p.k ss) ∧ Hid (RaceAt bs wx g p') ∧ Hid (Below w'.heap.size w' wx))
            case first =>
              go_wp2_with fail
              go_loopw [24, 25] (fun cv iv wr => ∃ (k : Nat) (p' : Race), k ≤ ss.length ∧ iv = .int .i64 k ∧ cv = .int .i64 (runN p.k (ss.take k) : Int) ∧ Hid (p'.k = runV p.k (ss.take k)) ∧ Hid (RaceAt bs wr g p') ∧ Hid (Below w'.heap.size w' wr))
                (fun _ iv _ => ss.length - (intOf iv).toNat)
              case atStart => exact ⟨0, p, Nat.zero_le _, rfl, rfl, rfl, HA.out, HBL.out⟩
              case round =>
                clear HA HBL
                obtain ⟨k, p', hkl, rfl, rfl, HPK, HA, HBL⟩ := hrel
                by_cases hlt : k < ss.length
                · have hki : (k : Int) < (ss.length : Int) := by omega
                  have hk0 : (0 : Int) ≤ (k : Int) := by omega
                  obtain ⟨b, off, rfl, hat⟩ := flat_at hvk (by omega)
                  have HST := Lib.hid (show ∀ W, Below w'.heap.size w' W → W.rangeAt b (off + k * 3) ss[k].lst from fun W hW => rangeAt_below (hat k hlt) hW)
                  have HRS := Lib.hid (run_step hlt HGR.out)
                  have hrb := runN_le (ss.take k) p.k
                  have hrb2 : (ss.take k).length ≤ 31 := by simp; omega
                  have HOKS := Lib.hid (HDS.out _ (List.getElem_mem hlt))
                  obtain ⟨s, hse⟩ : ∃ s, ss[k] = s := ⟨_, rfl⟩
                  rw [hse] at HST HRS HOKS
                  rw [← HPK.out] at HRS
                  obtain ⟨rc, hrc⟩ : ∃ rc, runN p.k (ss.take k) = rc := ⟨_, rfl⟩
                  rw [hrc] at hrb HRS ⊢
                  have hwr : IntKind.i64.wrap ((rc : Int) + 1) = (rc : Int) + 1 := by rw [IntKind.wrap_i64]; omega
                  clear hat hse hvk HPK hrc
                  go_wp2_with fail
                  have hlo0 : wr.heap.size ≤ wr.heap.size := Nat.le_refl _
                  have hgl : g < wr.heap.size := HA.out.1.lt
                  have hbsw : bs ≤ wr.heap.size := by omega
                  have hV0 := Lib.hid (show Below wr.heap.size wr wr.drew from (Below.refl _ _).drew)
                  have HH := Lib.hid (show ∀ W, Below wr.heap.size wr W → (W.cell? ⟨g, 0, none⟩ = some (.int .i64 p'.clock) ∧ W.cell? ⟨g, 1, none⟩ = some (.bool p'.closed) ∧ W.cell? ⟨g, 2, none⟩ = some (.slice p'.a p'.n p'.c)) ∧ W.cell? ⟨b, off + k * 3, none⟩ = some (.int .i64 s.kind) ∧ W.cell? ⟨b, off + k * 3 + 1, none⟩ = some (.int .i64 s.entrant) ∧ W.cell? ⟨b, off + k * 3 + 2, none⟩ = some (.int .i64 s.value) from fun W hW => by
                    obtain ⟨a0, a1, a2, _⟩ := (HA.out.below hW).cells
                    have r := rangeAt_below (HST.out wr HBL.out) hW
                    have r0 := r 0 _ rfl
                    have r1 := r 1 _ rfl
                    have r2 := r 2 _ rfl
                    simp only [Nat.add_zero] at r0
                    exact ⟨⟨a0, a1, a2⟩, r0, r1, r2⟩)
                  apply join6 (F := StepN bs g wr p' s)
                  · intro hk
                    go_region_held3 (fun w' => (w'.cell? ⟨g, 0, none⟩ = some (.int .i64 p'.clock) ∧ w'.cell? ⟨g, 1, none⟩ = some (.bool p'.closed) ∧ w'.cell? ⟨g, 2, none⟩ = some (.slice p'.a p'.n p'.c)) ∧ w'.cell? ⟨b, off + k * 3, none⟩ = some (.int .i64 s.kind) ∧ w'.cell? ⟨b, off + k * 3 + 1, none⟩ = some (.int .i64 s.entrant) ∧ w'.cell? ⟨b, off + k * 3 + 2, none⟩ = some (.int .i64 s.value)) (exact HH.out _ (by repeat (first | (with_reducible exact hV2.out) | (with_reducible exact hV0.out) | (with_reducible exact Below.refl _ _) | (with_reducible refine Below.drew ?_) | (with_reducible refine below_alloc ?_ _) | (with_reducible refine Below.setCell ?_ (by first | (with_reducible exact hlo0) | (with_reducible exact hlo2)) _))))
                      (first
                        | (go_at_call 38; refine (impl_StepRace p' p'.k s wr.drew rfl (RaceR.s (HA.out.below hV0.out).2.1) HOKS.out).mono ?_; rintro e v2 ⟨q, rfl, hk', hr', hb2⟩; have hV2 := Lib.hid (step_ hV0.out (Nat.le_refl _) hb2); have hlo2 := hV2.out.size; have hbv : wr.heap.size ≤ wr.drew.heap.size := hV0.out.size)
                        | (go_at_call 38; have hz := below_alloc (Below.refl wr.drew.heap.size wr.drew) (.cells #[.int .i64 0, .bool false, .slice none 0 0] 24); have hVz := step_ hV0.out (Nat.le_refl _) hz; have HZz := Lib.hid (show LitAt (wr.drew.alloc (.cells #[.int .i64 0, .bool false, .slice none 0 0] 24)) wr.heap.size 24 zRace from LitAt.new wr.drew _ _ _ rfl); have hbv : wr.heap.size < (wr.drew.alloc (.cells #[.int .i64 0, .bool false, .slice none 0 0] 24)).heap.size := HZz.out.lt; refine (impl_StepRace p' p'.k s (wr.drew.alloc (.cells #[.int .i64 0, .bool false, .slice none 0 0] 24)) rfl (RaceR.s (HA.out.below hVz).2.1) HOKS.out).mono ?_; rintro e v2 ⟨q, rfl, hk', hr', hb2⟩; have hV2 := Lib.hid (step_ hVz (Nat.le_refl _) hb2); have hlo2 := hV2.out.size; have HZ0 := Lib.hid (HZz.out.below hb2); clear HZz hVz hz; have z00 := HZ0.out.range 0 _ rfl; have z01 := HZ0.out.range 1 _ rfl; have z02 := HZ0.out.range 2 _ rfl; have zf0 := HZ0.out.frozen; simp only [Nat.zero_add] at z00 z01 z02))
                    all_goals first
                      | (have _ := HZ0
                         obtain ⟨B_, hBe⟩ : ∃ b, b = wr.heap.size := ⟨_, rfl⟩
                         have HF : StepN bs g wr p' s (((v2.setCell ⟨B_, 0, none⟩ (.int .i64 q.clock)).setCell ⟨B_, 1, none⟩ (.bool q.closed)).setCell ⟨B_, 2, none⟩ (.slice q.a q.n q.c)) B_ q := by
                           subst hBe
                           have hfar : ∀ k, RaceBlk q k → k ≠ wr.heap.size := fun k hk => by have h1 := (RaceR.lt hr' k hk).1; omega
                           exact ⟨hk', (((RaceR.mono hr' (by omega)).setFar hfar _).setFar hfar _).setFar hfar _, (((HZ0.out.set 0 (.int .i64 q.clock)).set 1 (.bool q.closed)).set 2 (.slice q.a q.n q.c)).range, (((hV2.out.setCell hlo0 _).setCell hlo0 _).setCell hlo0 _), fun k hk => by have h1 := (RaceR.lt hr' k hk).1; omega⟩
                         rw [← hBe]
                         generalize (((v2.setCell ⟨B_, 0, none⟩ (.int .i64 q.clock)).setCell ⟨B_, 1, none⟩ (.bool q.closed)).setCell ⟨B_, 2, none⟩ (.slice q.a q.n q.c)) = WF at HF ⊢
                         exact hk WF B_ q HF)
                      | (obtain ⟨B_, hBe⟩ : ∃ b, b = v2.heap.size := ⟨_, rfl⟩
                         have HF : StepN bs g wr p' s (v2.alloc (.cells #[.int .i64 q.clock, .bool q.closed, .slice q.a q.n q.c] 24)) B_ q := by
                           subst hBe
                           exact ⟨hk', RaceR.below (RaceR.mono hr' (by omega)) (below_alloc (Below.refl _ _) _), Race.rangeNew v2 q 24, below_alloc hV2.out _, fun k hk => by have h1 := (RaceR.lt hr' k hk).1; omega⟩
                         rw [← hBe]
                         generalize (v2.alloc (.cells #[.int .i64 q.clock, .bool q.closed, .slice q.a q.n q.c] 24)) = WF at HF ⊢
                         exact hk WF B_ q HF)
                  clear HH hV0
                  rintro W B q ⟨hk', hr', hrg, hbw, hne⟩
                  have hbc := Race.cells hrg
                  simp only [Nat.zero_add] at hbc
                  replace HA := Lib.hid (HA.out.below hbw)
                  replace HBL := Lib.hid (step_ HBL.out (Nat.le_refl _) hbw)
                  obtain ⟨a0, a1, a2, af⟩ := HA.out.cells
                  have f0 := af 0
                  have f1 := af 1
                  have f2 := af 2
                  clear af hrg hbw
                  cases hs : strB p'.k s with
                  | false =>
                    obtain ⟨e1, e2⟩ := HRS.out.2 hs
                    have HE2 := Lib.hid e2
                    clear hk' hr' hne hs e2
                    go_wp2_with fail
                    go_roundw
                    case rel => exact ⟨k + 1, p', by omega, by go_num, by rw [HE2.out], e1, HA.out, HBL.out⟩
                    case measure => simp [intOf]; omega
                  | true =>
                    obtain ⟨e1, e2⟩ := HRS.out.1 hs
                    have HE2 := Lib.hid e2
                    have HE1 := Lib.hid (hk'.trans e1)
                    have HA2 := Lib.hid (HA.out.put3 hr' hne)
                    have HB2 := Lib.hid (show Below w'.heap.size w' (((W.setCell ⟨g, 0, none⟩ (.int .i64 q.clock)).setCell ⟨g, 1, none⟩ (.bool q.closed)).setCell ⟨g, 2, none⟩ (.slice q.a q.n q.c)) from Below.set3 HBL.out (by omega) _ _ _)
                    clear hk' hr' hne hs e1 e2 HA HBL
                    go_wp2_with fail
                    go_roundw
                    case rel => exact ⟨k + 1, q, by omega, by go_num, by rw [HE2.out]; simp, HE1.out, HA2.out, HB2.out⟩
                    case measure => simp [intOf]; omega
                · obtain rfl : k = ss.length := by omega
                  rw [List.take_length] at HPK ⊢
                  go_wp2_with fail
                  go_meet
                  exact ⟨p', rfl, HPK, HA, HBL⟩
            case rest =>
              clear HA HBL
              obtain ⟨p', rfl, HPK, HA, HBL⟩ := hcut
              have hnn := HNR.out
              subst hnn
              obtain ⟨a0, a1, a2, _⟩ := HA.out.cells
              replace H17 := Lib.hid (H17.out.below HBL.out)
              replace HP1 := Lib.hid (HP1.out.below HBL.out)
              replace HB := Lib.hid (step_ HB.out (Nat.le_refl _) HBL.out)
              have HV := Lib.hid (vRace_any p' p1 wc (HPK.out.trans HK1.out.symm) (RaceR.s HA.out.2.1) HP1.out)
              obtain ⟨c0, c1, c2⟩ := race_cells H17.out
              go_wp2_with fail
              refine (HV.out).mono ?_
              rintro e w' ⟨rfl, hb⟩
              replace HB := Lib.hid (step_ HB.out (Nat.le_refl _) hb)
              go_wp2_with fail
              go_meet
              exact HB
        case rest =>
          have HB := hcut
          clear hcut H15 H17 HP1 HP HS HK1 HOK HNR HDS HBW
          go_wp2_with fail
          refine (draw_NewRace v0 m _ (HC.out.below HB.out)).mono ?_
          rintro e w' ⟨n, rfl, hn, hb⟩
          replace HB := Lib.hid (step_ HB.out (Nat.le_refl _) hb)
          clear hb
          go_wp2_with fail
          refine (impl_NewRace n _ (by unfold I64; omega)).mono ?_
          rintro e w' ⟨p1, rfl, hk1, hr1, hb⟩
          replace HB := Lib.hid (step_ HB.out (Nat.le_refl _) hb)
          have hal : Below w'.heap.size w' (w'.alloc (.cells #[.int .i64 p1.clock, .bool p1.closed, .slice p1.a p1.n p1.c] 24)) := below_alloc (Below.refl _ _) _
          have H29 := Lib.hid (show LitAt (w'.alloc (.cells #[.int .i64 p1.clock, .bool p1.closed, .slice p1.a p1.n p1.c] 24)) w'.heap.size 24 p1.lst from LitAt.new _ _ p1.lst _ rfl)
          have HP1 := Lib.hid ((RaceR.s hr1).below hal)
          replace HB := Lib.hid (step_ HB.out (Nat.le_refl _) hal)
          clear hr1 hb
          go_upto_region 32 with fail
          generalize w'.alloc (.cells #[.int .i64 p1.clock, .bool p1.closed, .slice p1.a p1.n p1.c] 24) = W1 at *
          generalize w'.heap.size = b29 at *
          go_wp2_with fail
          refine (spec_NewRace n _ (by unfold I64; omega)).mono ?_
          rintro e w' ⟨p2, rfl, hk2, hr2, hb⟩
          replace HB := Lib.hid (step_ HB.out (Nat.le_refl _) hb)
          replace H29 := Lib.hid (H29.out.below hb)
          replace HP1 := Lib.hid (HP1.out.below hb)
          have hal : Below w'.heap.size w' (w'.alloc (.cells #[.int .i64 p2.clock, .bool p2.closed, .slice p2.a p2.n p2.c] 24)) := below_alloc (Below.refl _ _) _
          have H31 := Lib.hid (show LitAt (w'.alloc (.cells #[.int .i64 p2.clock, .bool p2.closed, .slice p2.a p2.n p2.c] 24)) w'.heap.size 24 p2.lst from LitAt.new _ _ p2.lst _ rfl)
          have HP2 := Lib.hid ((RaceR.s hr2).below hal)
          replace HB := Lib.hid (step_ HB.out (Nat.le_refl _) hal)
          clear hr2 hb
          replace H29 := Lib.hid (H29.out.below hal)
          replace HP1 := Lib.hid (HP1.out.below hal)
          go_upto_region 33 with fail
          generalize w'.alloc (.cells #[.int .i64 p2.clock, .bool p2.closed, .slice p2.a p2.n p2.c] 24) = W1 at *
          generalize w'.heap.size = b31 at *
          have HV := Lib.hid (vRace_any p1 p2 W1 (hk1.trans hk2.symm) HP1.out HP2.out)
          obtain ⟨a0, a1, a2⟩ := race_cells H29.out
          obtain ⟨c0, c1, c2⟩ := race_cells H31.out
          clear hk1 hk2
          go_wp2_with fail
          refine (HV.out).mono ?_
          rintro e w' ⟨rfl, hb⟩
          replace HB := Lib.hid (step_ HB.out (Nat.le_refl _) hb)
          go_wp2_with fail
          go_ret
          exact ⟨rfl, HB.out⟩
end Go.Proofs.Ytfmgnbkneccekaa
