/- The draw of a race and steps. No condition. -/
import Derived.Test.YtfmgnbkneccekaaDrRb
namespace Go.Proofs.Ytfmgnbkneccekaa
open Go Go.RowKit

/-- Two races in variables (blocks gf, g) and a row of steps, a drawing in course. -/
structure InRun (z gf g base c : Nat) (w wx : World) (n : Nat) (q p : Race) (v : Value) (ss : List Step) : Prop where
  dr : Dr c w wx n
  zero : LitAt wx z 24 zRace
  first : RaceAt base wx gf q
  now : RaceAt base wx g p
  row : Row base 53 3 wx v (ss.map Step.lst)
  far : ∀ b, v.ownBlock = some b → b ≠ gf ∧ b ≠ g ∧ (∀ k, RaceBlk q k → k ≠ b) ∧ (∀ k, RaceBlk p k → k ≠ b)
  apart : (∀ k, RaceBlk q k → k ≠ g) ∧ gf ≠ g ∧ z < base ∧ z ≠ c ∧ c < base ∧ base ≤ gf ∧ base ≤ g ∧ base = w.heap.size
namespace InRun
variable {z gf g base c : Nat} {w wx wy : World} {n n' : Nat} {q p : Race} {v : Value} {ss : List Step}
theorem below (h : InRun z gf g base c w wx n q p v ss) (hb : Below wx.heap.size wx wy) : InRun z gf g base c w wy n q p v ss :=
  ⟨h.dr.below hb, h.zero.below hb, h.first.below hb, h.now.below hb, h.row.below hb, h.far, h.apart⟩
theorem mono (h : InRun z gf g base c w wx n q p v ss) (hn : n ≤ n') : InRun z gf g base c w wx n' q p v ss := ⟨h.dr.mono hn, h.zero, h.first, h.now, h.row, h.far, h.apart⟩
theorem keptC (h : InRun z gf g base c w wx n q p v ss) (hd : Dr c w wy n') (hg : wx.grownBy wy (some c)) : InRun z gf g base c w wy n' q p v ss := by
  obtain ⟨_, _, hz, hzc, hc, hf, hgb, _⟩ := h.apart
  exact ⟨hd, h.zero.grown hg (by intro e; have := Option.some.inj e; omega), h.first.keptC hc (by omega) hg, h.now.keptC hc (by omega) hg, h.row.keptC hc hg, h.far, h.apart⟩
theorem lts (h : InRun z gf g base c w wx n q p v ss) : gf < wx.heap.size ∧ g < wx.heap.size ∧ (∀ b, v.ownBlock = some b → b < wx.heap.size) ∧ base ≤ wx.heap.size :=
  ⟨h.first.1.lt, h.now.1.lt, fun b hb => (h.row.lt b hb).2, by have := h.first.1.lt; have := h.apart; omega⟩
/-- Steps appended. -/
theorem appended (h : InRun z gf g base c w wx n q p v ss) {v' : Value} {ss' : List Step} (hr : Row base 53 3 wy v' (ss'.map Step.lst)) (hg : wx.grownBy wy v.ownBlock) (hat : v'.ownBlock = v.ownBlock ∨ v'.ownBlock = some wx.heap.size) : InRun z gf g base c w wy n q p v' ss' := by
  obtain ⟨ha, hgf, hz, hzc, hc, hf, hgb, hbw⟩ := h.apart
  have hlt := h.lts
  have hbb : ∀ b, v.ownBlock = some b → base ≤ b := fun b hb => (h.row.lt b hb).1
  have hk := KeptOff.of_grown (S := fun k => v.ownBlock = some k) hg (fun k e => e)
  refine ⟨h.dr.own (by omega) hg (fun k e => by have := hbb k e; omega), h.zero.grown hg (fun e => by have := hbb z e; omega),
    ⟨h.first.1.grown hg (fun e => (h.far gf e).1 rfl), RaceR.keptOff h.first.2.1 hk (fun k hk' e => (h.far k e).2.2.1 k hk' rfl), h.first.2.2⟩,
    ⟨h.now.1.grown hg (fun e => (h.far g e).2.1 rfl), RaceR.keptOff h.now.2.1 hk (fun k hk' e => (h.far k e).2.2.2 k hk' rfl), h.now.2.2⟩, hr, fun b hb => ?_, h.apart⟩
  rcases hat with e | e
  · exact h.far b (e ▸ hb)
  · rw [e] at hb
    obtain rfl := Option.some.inj hb
    exact ⟨by omega, by omega, fun k hk' => by have := (RaceR.lt h.first.2.1 k hk').2; omega, fun k hk' => by have := (RaceR.lt h.now.2.1 k hk').2; omega⟩
/-- Another race in the second variable. -/
theorem turn (h : InRun z gf g base c w wx n q p v ss) {p' : Race} (hr : RaceR base wx p') (hne : ∀ k, RaceBlk p' k → k ≠ g ∧ ∀ b, v.ownBlock = some b → k ≠ b) :
    InRun z gf g base c w (((wx.setCell ⟨g, 0, none⟩ (.int .i64 p'.clock)).setCell ⟨g, 1, none⟩ (.bool p'.closed)).setCell ⟨g, 2, none⟩ (.slice p'.a p'.n p'.c)) n q p' v ss := by
  obtain ⟨ha, hgf, hz, hzc, hc, hf, hgb, hbw⟩ := h.apart
  have hv : v.ownBlock ≠ some g := fun e => (h.far g e).2.1 rfl
  refine ⟨h.dr.own (by omega) (grown_trans (grown_trans grown_setCell grown_setCell) grown_setCell) (fun k e => by have := Option.some.inj e; omega), ((h.zero.setNe (by omega) _).setNe (by omega) _).setNe (by omega) _,
    ⟨((h.first.1.setNe hgf _).setNe hgf _).setNe hgf _, ((h.first.2.1.setFar ha _).setFar ha _).setFar ha _, h.first.2.2⟩,
    ⟨((h.now.1.put_ 0 (.int .i64 p'.clock)).put_ 1 (.bool p'.closed)).put_ 2 (.slice p'.a p'.n p'.c), ((hr.setFar (fun k hk => (hne k hk).1) _).setFar (fun k hk => (hne k hk).1) _).setFar (fun k hk => (hne k hk).1) _, fun k hk => (hne k hk).1⟩,
    Row.putNe_ (Row.putNe_ (Row.putNe_ h.row hv _) hv _) hv _, fun b hb => ⟨(h.far b hb).1, (h.far b hb).2.1, (h.far b hb).2.2.1, fun k hk => (hne k hk).2 b hb⟩, h.apart⟩
end InRun
theorem strV_len {k : RaceK} {s : Step} (h : strB k s = true) : (strV k s).field.length ≤ 8 := by
  have := inB_iff.1 (strV_good h).2.1
  omega
def lenV : Value → Nat
  | .slice _ n _ => n
  | _ => 0
set_option maxRecDepth 100000 in
set_option maxHeartbeats 8000000 in
theorem draw_RunRace (v0 : Value) (m : Nat) (w : World) (h : CodeS w v0 m) :
    Calls Try.prog 56 #[v0] w fun e w' => ∃ (p : Race) (ss : List Step) (v : Value), e = .returned (.tuple #[.agg #[.int .i64 p.clock, .bool p.closed, .slice p.a p.n p.c], v]) ∧ Sl (Flat Step.lst) 3 w' v ss ∧ (∀ s ∈ ss, DrawnSt s) ∧ ss.length ≤ 31 ∧ DrewR w w' p := by
  obtain ⟨A, cap, rfl⟩ : ∃ A cap, v0 = .slice A m cap := by obtain ⟨A, cap, e, _⟩ := h; exact ⟨A, cap, e⟩
  have h1 := h.below (below_alloc (Below.refl _ _) (.cells #[.int .i64 0, .bool false, .slice none 0 0] 24))
  obtain ⟨W0, hW0⟩ : ∃ W0, (w.alloc (.cells #[.int .i64 0, .bool false, .slice none 0 0] 24)).alloc (.cells #[.slice A m cap, .int .i64 0, .int .u64 0] 107) = W0 := ⟨_, rfl⟩
  have hcur : Cur (w.heap.size + 1) W0 0 := by rw [← hW0]; exact Cur.new h1 (w.heap.size + 1) (by simp)
  have hs0 : W0.heap.size = w.heap.size + 2 := by rw [← hW0]; simp
  have HB0 := Lib.hid (show Below w.heap.size w W0 by rw [← hW0]; exact below_alloc (below_alloc (Below.refl _ _) _) _)
  have HZ := Lib.hid (show LitAt W0 w.heap.size 24 zRace by rw [← hW0]; exact LitAt.alloc (LitAt.new _ _ _ _ rfl) _)
  have HC := Lib.hid (race_any (w.heap.size + 1) 0 W0 hcur (by omega))
  have HW0 := Lib.hid hW0
  clear h h1 hcur hW0
  go_enter Try.func56, Try.ntmps56
  go_wp2_with fail
  rw [HW0.out]
  refine HC.out.mono ?_
  rintro e w1 ⟨p, rfl, hr, hl, hd⟩
  replace HZ := Lib.hid (HZ.out.grown hd.grown (by intro e; simp at e))
  have HR := Lib.hid hr
  have HD := Lib.hid hd
  have hg1 : w.heap.size + 2 ≤ w1.heap.size := by have := hd.size; omega
  clear hr hd HC
  have HI := Lib.hid (show InRun w.heap.size w1.heap.size (w1.heap.size + 1 + 1) W0.heap.size (w.heap.size + 1) W0 (((w1.alloc (.cells #[.int .i64 p.clock, .bool p.closed, .slice p.a p.n p.c] 24)).alloc (.cells #[] 53)).alloc (.cells #[.int .i64 p.clock, .bool p.closed, .slice p.a p.n p.c] 24)) 2000 p p (.slice (some ⟨w1.heap.size + 1, 0, none⟩) 0 0) [] from by
    have hlt := fun k hk => (RaceR.lt HR.out k hk).2
    have hs1 : (w1.alloc (.cells #[.int .i64 p.clock, .bool p.closed, .slice p.a p.n p.c] 24)).heap.size = w1.heap.size + 1 := by simp
    have hs2 : ((w1.alloc (.cells #[.int .i64 p.clock, .bool p.closed, .slice p.a p.n p.c] 24)).alloc (.cells #[] 53)).heap.size = w1.heap.size + 2 := by simp
    have hrow : Row W0.heap.size 53 3 ((w1.alloc (.cells #[.int .i64 p.clock, .bool p.closed, .slice p.a p.n p.c] 24)).alloc (.cells #[] 53)) (.slice (some ⟨w1.heap.size + 1, 0, none⟩) 0 0) [] := by
      have := Row.lit_nil (w1.alloc (.cells #[.int .i64 p.clock, .bool p.closed, .slice p.a p.n p.c] 24)) 53 3 (base := W0.heap.size) (by omega)
      rwa [hs1] at this
    refine ⟨((HD.out.alloc _).alloc _).alloc _, ((HZ.out.alloc _).alloc _).alloc _, ⟨LitAt.alloc (LitAt.alloc (LitAt.new _ _ p.lst _ rfl) _) _, RaceR.below HR.out (below_alloc (below_alloc (below_alloc (Below.refl _ _) _) _) _), fun k hk => by have := hlt k hk; omega⟩,
      ⟨LitAt.new _ _ p.lst _ hs2, RaceR.below HR.out (below_alloc (below_alloc (below_alloc (Below.refl _ _) _) _) _), fun k hk => by have := hlt k hk; omega⟩, hrow.alloc _, fun b hb => ?_, fun k hk => by have := hlt k hk; omega, by omega, by omega, by omega, by omega, by omega, by omega, rfl⟩
    obtain rfl : w1.heap.size + 1 = b := by simpa [Value.ownBlock] using hb
    exact ⟨by omega, by omega, fun k hk => by have := hlt k hk; omega, fun k hk => by have := hlt k hk; omega⟩)
  clear HZ HR HD
  go_upto_region 5 with fail
  generalize ((w1.alloc (.cells #[.int .i64 p.clock, .bool p.closed, .slice p.a p.n p.c] 24)).alloc (.cells #[] 53)).alloc (.cells #[.int .i64 p.clock, .bool p.closed, .slice p.a p.n p.c] 24) = W2 at HI ⊢
  generalize w1.heap.size + 1 + 1 = g at HI ⊢
  generalize w1.heap.size + 1 = b1 at HI ⊢
  generalize w1.heap.size = gf at *
  go_wp2_with fail
  refine (pick_dr 9 HI.out.dr (by omega) (by omega) (by omega)).mono ?_
  rintro e w3 ⟨x, hx, rfl, hd, hg⟩
  replace HI := Lib.hid (HI.out.keptC hd hg)
  clear hd hg
  have hl0 := hl
  go_upto_block 0 with fail
  go_cut [6] (fun v wx => ∃ (p' : Race) (ss : List Step), ss.length ≤ 8 ∧ Hid (∀ s ∈ ss, DrawnSt s) ∧ Hid (InRun w.heap.size gf g W0.heap.size (w.heap.size + 1) W0 wx 2700 p p' v ss))
  case first =>
    go_wp2_with fail
    go_loopw [6, 8] (fun v iv wr => ∃ (i : Nat) (p' : Race) (ss : List Step), iv = .int .i64 i ∧ ss.length + i ≤ 8 ∧ p'.zs.length ≤ 8 ∧ Hid (∀ s ∈ ss, DrawnSt s) ∧ Hid (InRun w.heap.size gf g W0.heap.size (w.heap.size + 1) W0 wr (2002 + 60 * (9 - i)) p p' v ss))
      (fun _ iv _ => (intOf iv).toNat)
    case atStart => exact ⟨x, p, [], rfl, by simp; omega, hl, fun s hs => absurd hs (by simp), HI.out.mono (by omega)⟩
    case round =>
      clear HI hl hx
      obtain ⟨i, p', ss, rfl, hsl, hl, HSS, HI⟩ := hrel
      by_cases hi0 : 0 < i
      · have hi0' : (0 : Int) < (i : Int) := by omega
        obtain ⟨a0, a1, a2, af⟩ := HI.out.now.cells
        have f0 := af 0
        have f1 := af 1
        have f2 := af 2
        clear af
        go_wp2_with fail
        refine (raceStep_any (w.heap.size + 1) _ p' W0 wr HI.out.dr (by omega) HI.out.now.2.1 (by omega) hl).mono ?_
        rintro e w4 ⟨s, he, hs, -, hd, hg⟩
        obtain rfl : e = .returned (.agg #[.int .i64 s.kind, .int .i64 s.entrant, .int .i64 s.value]) := he
        have HDS := Lib.hid hs
        have HI4 := Lib.hid (HI.out.keptC hd hg)
        have HSE := Lib.hid (show ∀ b, Value.ownBlock u6 = some b → b < w4.heap.size from fun b hb => HI4.out.lts.2.2.1 b hb)
        replace HI := Lib.hid (HI4.out.below (below_alloc (Below.refl _ _) (.cells #[.int .i64 s.kind, .int .i64 s.entrant, .int .i64 s.value] 53)))
        have HST := Lib.hid (show LitAt (w4.alloc (.cells #[.int .i64 s.kind, .int .i64 s.entrant, .int .i64 s.value] 53)) w4.heap.size 53 s.lst from LitAt.new _ _ s.lst _ rfl)
        clear hs hd hg HI4
        clear a0 a1 a2 f0 f1 f2
        go_upto_region 9 with fail
        generalize w4.alloc (.cells #[.int .i64 s.kind, .int .i64 s.entrant, .int .i64 s.value] 53) = W4 at HI HST ⊢
        generalize w4.heap.size = bs at HST HSE ⊢
        have HIA := Lib.hid (HI.out.below (below_alloc (Below.refl _ _) (.cells #[.int .i64 s.kind, .int .i64 s.entrant, .int .i64 s.value] 53)))
        have HSA := Lib.hid (LitAt.alloc HST.out (.cells #[.int .i64 s.kind, .int .i64 s.entrant, .int .i64 s.value] 53))
        have HSR := Lib.hid (show Src (W4.alloc (.cells #[.int .i64 s.kind, .int .i64 s.entrant, .int .i64 s.value] 53)) 3 (some ⟨W4.heap.size, 0, none⟩) 1 [s.lst] from Src.lit W4 53 s.lst W4.heap.size (by simp) rfl s.one)
        have HLL := Lib.hid (show (ss.map Step.lst).length + 1 ≤ 2147483648 by simp; omega)
        have HBA := Lib.hid (show W0.heap.size ≤ (W4.alloc (.cells #[.int .i64 s.kind, .int .i64 s.entrant, .int .i64 s.value] 53)).heap.size from HIA.out.lts.2.2.2)
        have hsr := HST.out.range
        have s0 := hsr 0 _ rfl
        have s1 := hsr 1 _ rfl
        have s2 := hsr 2 _ rfl
        simp only [Nat.zero_add] at s0 s1 s2
        have HJ := Lib.hid (show ∀ (o7 : Value) (w7 : World), Row W0.heap.size 53 3 w7 o7 (ss.map Step.lst ++ [s.lst]) → (W4.alloc (.cells #[.int .i64 s.kind, .int .i64 s.entrant, .int .i64 s.value] 53)).grownBy w7 u6.ownBlock → (o7.ownBlock = u6.ownBlock ∨ o7.ownBlock = some (W4.alloc (.cells #[.int .i64 s.kind, .int .i64 s.entrant, .int .i64 s.value] 53)).heap.size) →
            InRun w.heap.size gf g W0.heap.size (w.heap.size + 1) W0 w7 (2002 + 60 * (9 - i) + 60) p p' o7 (ss ++ [s]) ∧ LitAt w7 bs 53 s.lst from fun o7 w7 hrow7 hg7 hat7 =>
          ⟨HIA.out.appended (ss' := ss ++ [s]) (by simpa using hrow7) hg7 hat7, HSA.out.grown hg7 (fun e => by have := HSE.out _ e; omega)⟩)
        go_wp2_with (at_builtin; refine tyStep.append rfl _ _ rfl W0.heap.size u6 _ rfl HIA.out.row _ 1 1 [s.lst] rfl HSR.out HLL.out HBA.out ?_; intro o7 w7 hrow7 hg7 hat7; have HH7 := Lib.hid (HJ.out o7 w7 hrow7 hg7 hat7); clear hrow7 hg7 hat7 s0 s1 s2 hsr; obtain ⟨a0, a1, a2, af⟩ := HH7.out.1.now.cells; have f0 := af 0; have f1 := af 1; have f2 := af 2; clear af; have hsr := HH7.out.2.range; have s0 := hsr 0 _ rfl; have s1 := hsr 1 _ rfl; have s2 := hsr 2 _ rfl; simp only [Nat.zero_add] at s0 s1 s2)
        have HSS7 := Lib.hid (show ∀ x ∈ ss ++ [s], DrawnSt x from fun x hx => by
          rcases List.mem_append.1 hx with hx | hx
          · exact HSS.out x hx
          · rw [List.mem_singleton.1 hx]; exact HDS.out)
        have hsl7 : (ss ++ [s]).length = ss.length + 1 := by simp
        clear HIA HSA HSR HLL HBA HI HST HSE HSS HJ
        have HI := Lib.hid HH7.out.1
        clear HH7
        generalize ss ++ [s] = ss7 at HI HSS7 hsl7 ⊢
        refine (spec_StepRace p' p'.k s w7 rfl (RaceR.s HI.out.now.2.1) (DrawnSt.ok HDS.out)).mono ?_
        rintro e w8 ⟨q, rfl, hk', hr', hb8⟩
        clear a0 a1 a2 f0 f1 f2
        clear s0 s1 s2 hsr
        obtain ⟨l1, l2, l3, l4⟩ := HI.out.lts
        replace HI := Lib.hid ((HI.out.below hb8).below (below_alloc (Below.refl _ _) (.cells #[.int .i64 q.clock, .bool q.closed, .slice q.a q.n q.c] 24)))
        have hbc := Race.cells (Race.rangeNew w8 q 24)
        simp only [Nat.zero_add] at hbc
        go_upto_if 38 with fail
        obtain ⟨a0, a1, a2, af⟩ := HI.out.now.cells
        have f0 := af 0
        have f1 := af 1
        have f2 := af 2
        clear af
        cases hs : strB p'.k s with
        | false =>
          clear hk' hr' hb8 hs
          go_wp2_with fail
          go_roundw
          case rel => exact ⟨i - 1, p', ss7, by go_num, by omega, hl, HSS7.out, HI.out.mono (by omega)⟩
          case measure => simp [intOf]; omega
        | true =>
          have hl' : q.zs.length ≤ 8 := by have := strV_len hs; rw [← hk'] at this; simpa [Race.k] using this
          have HI9 := Lib.hid (HI.out.turn (RaceR.below (RaceR.mono hr' l4) (below_alloc (Below.refl _ _) (.cells #[.int .i64 q.clock, .bool q.closed, .slice q.a q.n q.c] 24))) (fun k hk => by
            have h1 := (RaceR.lt hr' k hk).1
            exact ⟨by omega, fun b hb => by have := l3 b hb; omega⟩))
          clear hk' hr' hb8 hs HI l1 l2 l3 l4
          go_wp2_with fail
          go_roundw
          case rel => exact ⟨i - 1, q, ss7, by go_num, by omega, hl', HSS7.out, HI9.out.mono (by omega)⟩
          case measure => simp [intOf]; omega
      · obtain rfl : i = 0 := by omega
        go_wp2_with fail
        go_meet
        exact ⟨p', ss, by omega, HSS, Lib.hid (HI.out.mono (by omega))⟩
  case rest =>
    clear HI hl hx
    obtain ⟨p', ss, hsl, HSS, HI⟩ := hcut
    go_wp2_with fail
    refine (one_dr 24 HI.out.dr (by omega) (by omega)).mono ?_
    rintro e w3 ⟨b, rfl, hd, hg⟩
    replace HI := Lib.hid (HI.out.keptC hd hg)
    clear hd hg
    go_upto_if 41 with fail
    go_cut [6] (fun v wx => ∃ (p' : Race) (ss : List Step), ss.length ≤ 31 ∧ Hid (∀ s ∈ ss, DrawnSt s) ∧ Hid (InRun w.heap.size gf g W0.heap.size (w.heap.size + 1) W0 wx 3000 p p' v ss))
    case first =>
      cases b with
      | false =>
        go_wp2_with fail
        go_meet
        exact ⟨p', ss, by omega, HSS, Lib.hid (HI.out.mono (by omega))⟩
      | true =>
        go_wp2_with fail
        go_loopw [6] (fun v wr => ∃ (ss : List Step), ss.length ≤ 31 ∧ lenV v = ss.length ∧ Hid (∀ s ∈ ss, DrawnSt s) ∧ Hid (InRun w.heap.size gf g W0.heap.size (w.heap.size + 1) W0 wr (2702 + 2 * ss.length) p p' v ss))
          (fun v _ => 40 - lenV v)
        case atStart =>
          refine ⟨ss, by omega, ?_, HSS.out, HI.out.mono (by omega)⟩
          obtain ⟨A2, d2, e, _, _⟩ := HI.out.row.parts
          rw [e]; simp [lenV]
        case round =>
          clear HI HSS hsl
          obtain ⟨ss, hsl, hlv, HSS, HI⟩ := hrel
          obtain ⟨A2, d2, rfl, hd2, hd3⟩ := HI.out.row.parts
          simp only [List.length_map] at HI hd2 ⊢
          go_wp2_with fail
          refine (pick_dr 2 HI.out.dr (by omega) (by omega) (by omega)).mono ?_
          rintro e w4 ⟨y, hy, rfl, hd, hg⟩
          replace HI := Lib.hid (HI.out.keptC hd hg)
          clear hd hg
          have hwr : IntKind.i64.wrap ((30 : Int) + (y : Int)) = 30 + (y : Int) := by rw [IntKind.wrap_i64]; omega
          by_cases hly : ss.length < 30 + y
          · have hly' : (ss.length : Int) < 30 + (y : Int) := by omega
            have HIA := Lib.hid (HI.out.below (below_alloc (Below.refl _ _) (.cells #[.int .i64 1, .int .i64 0, .int .i64 1] 53)))
            have HSR := Lib.hid (show Src (w4.alloc (.cells #[.int .i64 1, .int .i64 0, .int .i64 1] 53)) 3 (some ⟨w4.heap.size, 0, none⟩) 1 [Step.lst ⟨1, 0, 1⟩] from Src.lit w4 53 (Step.lst ⟨1, 0, 1⟩) w4.heap.size (by simp) rfl (Step.one ⟨1, 0, 1⟩))
            have HLL := Lib.hid (show (ss.map Step.lst).length + 1 ≤ 2147483648 by simp; omega)
            have HBA := Lib.hid (show W0.heap.size ≤ (w4.alloc (.cells #[.int .i64 1, .int .i64 0, .int .i64 1] 53)).heap.size from HIA.out.lts.2.2.2)
            go_wp2_with (at_builtin; refine tyStep.append rfl _ _ rfl W0.heap.size (.slice A2 ss.length d2) _ rfl HIA.out.row _ 1 1 [Step.lst ⟨1, 0, 1⟩] rfl HSR.out HLL.out HBA.out ?_; intro o7 w7 hrow7 hg7 hat7)
            have HI7 := Lib.hid (HIA.out.appended (ss' := ss ++ [⟨1, 0, 1⟩]) (by simpa using hrow7) hg7 hat7)
            have HSS7 := Lib.hid (show ∀ x ∈ ss ++ [(⟨1, 0, 1⟩ : Step)], DrawnSt x from fun x hx => by
              rcases List.mem_append.1 hx with hx | hx
              · exact HSS.out x hx
              · rw [List.mem_singleton.1 hx]; exact ⟨by simp only; omega, by simp only; omega, by simp only; omega⟩)
            have hl7 : lenV o7 = ss.length + 1 := by
              obtain ⟨A3, d3, e, _, _⟩ := HI7.out.row.parts
              rw [e]; simp [lenV]
            clear hrow7 hg7 hat7 HIA HSR HLL HBA HI
            go_roundw
            case rel => exact ⟨ss ++ [(⟨1, 0, 1⟩ : Step)], by simp; omega, by simp [hl7], HSS7.out, HI7.out.mono (by simp; omega)⟩
            case measure => rw [hl7]; simp only [lenV]; omega
          · have hly' : ¬ (ss.length : Int) < 30 + (y : Int) := by omega
            go_wp2_with fail
            go_meet
            exact ⟨p', ss, hsl, HSS, Lib.hid (HI.out.mono (by omega))⟩
    case rest =>
      clear HI HSS hsl
      obtain ⟨q, ss, hsl, HSS, HI⟩ := hcut
      obtain ⟨a0, a1, a2, af⟩ := HI.out.first.cells
      have hz := HI.out.zero.range
      have y0 := hz 0 _ rfl
      have y1 := hz 1 _ rfl
      have y2 := hz 2 _ rfl
      have yf := HI.out.zero.frozen
      simp only [Nat.zero_add] at y0 y1 y2
      go_wp2_with fail
      have hzb : w.heap.size < W0.heap.size := by omega
      refine bodyPost_ret (v := .tuple #[.agg #[.int .i64 p.clock, .bool p.closed, .slice p.a p.n p.c], u6]) (by simp [results, Try.results56, go_sem, y0, y1, y2]) rfl ⟨p, ss, u6, rfl, ?_, HSS.out, hsl, ?_, hl0, ?_⟩
      · exact Sl.of_flat (((HI.out.row.setOther hzb _).setOther hzb _).setOther hzb _)
      · exact RaceR.mono (RaceR.set3 HI.out.first.2.1 hzb _ _ _) (by omega)
      · exact Below.set3 (HI.out.dr.below2 HB0.out (by omega)) (Nat.le_refl _) _ _ _
end Go.Proofs.Ytfmgnbkneccekaa
