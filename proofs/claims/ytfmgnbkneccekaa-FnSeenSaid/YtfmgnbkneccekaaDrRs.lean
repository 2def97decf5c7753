/- The draw of a race's step. Condition: the cursor has not come too far. -/
import Derived.Test.YtfmgnbkneccekaaDrw
import Derived.Test.YtfmgnbkneccekaaStpJ
import Derived.Deep.DeepCutAuto
import Derived.Deep.CutBlock
namespace Go.Proofs.Ytfmgnbkneccekaa
open Go Go.RowKit

theorem RaceR.keptC {base c : Nat} {w w' : World} {p : Race} (h : RaceR base w p) (hc : c < base) (hg : w.grownBy w' (some c)) : RaceR base w' p :=
  RaceR.keptOff h (KeptOff.of_grown (S := fun k => k = c) hg (fun k e => (Option.some.inj e).symm)) (fun k hk e => by have := (RaceR.lt h k hk).1; omega)
/-- What a drawn step holds. -/
def DrawnSt (s : Step) : Prop := (-200000 ≤ s.kind ∧ s.kind ≤ 200000) ∧ (-200000 ≤ s.entrant ∧ s.entrant ≤ 200000) ∧ (-200000 ≤ s.value ∧ s.value ≤ 200000)
theorem DrawnSt.ok {s : Step} (h : DrawnSt s) : Step.ok s := by
  obtain ⟨h1, h2, h3⟩ := h
  exact ⟨⟨by omega, by omega⟩, ⟨by omega, by omega⟩, by omega, by omega⟩
/-- A step that lies in a variable of the call's own (block g), the drawing in course. -/
def InSt (gz g base c : Nat) (w wx : World) (n : Nat) (p : Race) (a0 a1 a2 : Int) : Prop := DrawnSt ⟨a0, a1, a2⟩ ∧ Dr c w wx n ∧ (RaceR base wx p ∧ ∀ k, RaceBlk p k → k < w.heap.size) ∧ LitAt wx gz 53 [.int .i64 0, .int .i64 0, .int .i64 0] ∧ LitAt wx g 53 [.int .i64 a0, .int .i64 a1, .int .i64 a2]
theorem InSt.keptC {gz g base c : Nat} {w wx wy : World} {n n' : Nat} {p : Race} {a0 a1 a2 : Int} (h : InSt gz g base c w wx n p a0 a1 a2) (hc : c < base) (h0 : c < gz) (hp : c < g) (hd : Dr c w wy n') (hg : wx.grownBy wy (some c)) : InSt gz g base c w wy n' p a0 a1 a2 :=
  ⟨h.1, hd, ⟨RaceR.keptC h.2.2.1.1 hc hg, h.2.2.1.2⟩, h.2.2.2.1.keptC h0 hg, h.2.2.2.2.keptC hp hg⟩
theorem InSt.mono {gz g base c : Nat} {w wx : World} {n n' : Nat} {p : Race} {a0 a1 a2 : Int} (h : InSt gz g base c w wx n p a0 a1 a2) (hn : n ≤ n') : InSt gz g base c w wx n' p a0 a1 a2 := ⟨h.1, h.2.1.mono hn, h.2.2⟩
theorem RaceR.setFar {base g o : Nat} {wx : World} {p : Race} (h : RaceR base wx p) (hne : ∀ k, RaceBlk p k → k ≠ g) (u : Value) : RaceR base (wx.setCell ⟨g, o, none⟩ u) p :=
  RaceR.keptOff h (KeptOff.of_grown (S := fun k => k = g) grown_setCell (fun _ e => (Option.some.inj e).symm)) (fun k hk e => hne k hk e)
theorem InSt.put0 {gz g base c : Nat} {w wx : World} {n : Nat} {p : Race} {a0 a1 a2 : Int} (h : InSt gz g base c w wx n p a0 a1 a2) (h0 : c < w.heap.size) (hz : gz < g) (hb : w.heap.size ≤ g) (y : Int) (hy : -200000 ≤ y ∧ y ≤ 200000) : InSt gz g base c w (wx.setCell ⟨g, 0, none⟩ (.int .i64 y)) n p y a1 a2 := by
  obtain ⟨⟨h1, h2, h3⟩, hd, ⟨hr, hk⟩, hzz, hl⟩ := h
  exact ⟨⟨by first | exact hy | assumption, by first | exact hy | assumption, by first | exact hy | assumption⟩, hd.own h0 grown_setCell (fun k e => by have := Option.some.inj e; omega), ⟨hr.setFar (fun k hk' => by have := hk k hk'; omega) _, hk⟩, hzz.setNe (by omega) _, by simpa using hl.put_ 0 (.int .i64 y)⟩
theorem InSt.put1 {gz g base c : Nat} {w wx : World} {n : Nat} {p : Race} {a0 a1 a2 : Int} (h : InSt gz g base c w wx n p a0 a1 a2) (h0 : c < w.heap.size) (hz : gz < g) (hb : w.heap.size ≤ g) (y : Int) (hy : -200000 ≤ y ∧ y ≤ 200000) : InSt gz g base c w (wx.setCell ⟨g, 1, none⟩ (.int .i64 y)) n p a0 y a2 := by
  obtain ⟨⟨h1, h2, h3⟩, hd, ⟨hr, hk⟩, hzz, hl⟩ := h
  exact ⟨⟨by first | exact hy | assumption, by first | exact hy | assumption, by first | exact hy | assumption⟩, hd.own h0 grown_setCell (fun k e => by have := Option.some.inj e; omega), ⟨hr.setFar (fun k hk' => by have := hk k hk'; omega) _, hk⟩, hzz.setNe (by omega) _, by simpa using hl.put_ 1 (.int .i64 y)⟩
theorem InSt.put2 {gz g base c : Nat} {w wx : World} {n : Nat} {p : Race} {a0 a1 a2 : Int} (h : InSt gz g base c w wx n p a0 a1 a2) (h0 : c < w.heap.size) (hz : gz < g) (hb : w.heap.size ≤ g) (y : Int) (hy : -200000 ≤ y ∧ y ≤ 200000) : InSt gz g base c w (wx.setCell ⟨g, 2, none⟩ (.int .i64 y)) n p a0 a1 y := by
  obtain ⟨⟨h1, h2, h3⟩, hd, ⟨hr, hk⟩, hzz, hl⟩ := h
  exact ⟨⟨by first | exact hy | assumption, by first | exact hy | assumption, by first | exact hy | assumption⟩, hd.own h0 grown_setCell (fun k e => by have := Option.some.inj e; omega), ⟨hr.setFar (fun k hk' => by have := hk k hk'; omega) _, hk⟩, hzz.setNe (by omega) _, by simpa using hl.put_ 2 (.int .i64 y)⟩
theorem InSt.cells {gz g base c : Nat} {w wx : World} {n : Nat} {p : Race} {a0 a1 a2 : Int} (h : InSt gz g base c w wx n p a0 a1 a2) :
    wx.cell? ⟨g, 0, none⟩ = some (.int .i64 a0) ∧ wx.cell? ⟨g, 1, none⟩ = some (.int .i64 a1) ∧ wx.cell? ⟨g, 2, none⟩ = some (.int .i64 a2) ∧ wx.frozen? ⟨g, 0, none⟩ = false ∧ wx.frozen? ⟨g, 1, none⟩ = false ∧ wx.frozen? ⟨g, 2, none⟩ = false := by
  have hr := h.2.2.2.2.range
  refine ⟨?_, ?_, ?_, h.2.2.2.2.frozen _, h.2.2.2.2.frozen _, h.2.2.2.2.frozen _⟩
  · simpa using hr 0 _ rfl
  · simpa using hr 1 _ rfl
  · simpa using hr 2 _ rfl
set_option maxRecDepth 100000 in
set_option maxHeartbeats 8000000 in
theorem raceStep_any (c n : Nat) (p : Race) (w0 w : World) (h : Dr c w0 w n) (hn : n ≤ 10000) (hr : RaceR w0.heap.size w p) (hc : c < w0.heap.size) (hl : p.zs.length ≤ 8) :
    Calls Try.prog 85 #[.pointer (some ⟨c, 0, none⟩), p.val] w fun e w' => ∃ s : Step, e = .returned s.val ∧ DrawnSt s ∧ RaceR w0.heap.size w' p ∧ Dr c w0 w' (n + 60) ∧ w.grownBy w' (some c) := by
  have hlt := h.cur.lt
  have hsz := h.size
  have HW := Lib.hid h
  have hpl := (RaceR.s hr).len
  obtain ⟨cl, cd, A, m, d, zs⟩ := p
  simp only at hpl hl
  subst hpl
  have hW : Below w.heap.size w ((w.alloc (.cells #[.int .i64 cl, .bool cd, .slice A zs.length d] 24)).alloc (.cells #[.int .i64 0, .int .i64 0, .int .i64 0] 53)) := below_alloc (below_alloc (Below.refl _ _) _) _
  have HD := Lib.hid (((Dr.start h.cur).alloc (.cells #[.int .i64 cl, .bool cd, .slice A zs.length d] 24)).alloc (.cells #[.int .i64 0, .int .i64 0, .int .i64 0] 53))
  have HR := Lib.hid (RaceR.below hr hW)
  have HBK := Lib.hid (fun k hk => (RaceR.lt hr k hk).2)
  have HB := Lib.hid (show LitAt ((w.alloc (.cells #[.int .i64 cl, .bool cd, .slice A zs.length d] 24)).alloc (.cells #[.int .i64 0, .int .i64 0, .int .i64 0] 53)) w.heap.size 24 [.int .i64 cl, .bool cd, .slice A zs.length d] from LitAt.alloc (LitAt.new _ _ _ _ rfl) _)
  have HZ := Lib.hid (show LitAt ((w.alloc (.cells #[.int .i64 cl, .bool cd, .slice A zs.length d] 24)).alloc (.cells #[.int .i64 0, .int .i64 0, .int .i64 0] 53)) (w.heap.size + 1) 53 [.int .i64 0, .int .i64 0, .int .i64 0] from LitAt.new _ _ _ _ (by simp))
  clear h hr hW
  show Calls Try.prog 85 #[.pointer (some ⟨c, 0, none⟩), .agg #[.int .i64 cl, .bool cd, .slice A zs.length d]] w _
  go_enter Try.func85, Try.ntmps85
  have hb2 := HB.out.range 2 _ rfl
  simp only [Nat.zero_add] at hb2
  go_wp2_with (go_at_call 104; refine (l1Most_any _ _ _).mono ?_; rintro e w1 ⟨rfl, rfl⟩)
  refine (pick_dr (max 1 (zs.length : Int)) HD.out (by omega) (by omega) (by omega)).mono ?_
  rintro e w' ⟨i0, hi0, rfl, hd, hg⟩
  replace HD := Lib.hid hd
  replace HR := Lib.hid (RaceR.keptC HR.out (by omega) hg)
  replace HB := Lib.hid (HB.out.keptC (by omega) hg)
  replace HZ := Lib.hid (HZ.out.keptC (by omega) hg)
  clear hd hg hb2
  have hi8 : i0 < 8 ∨ i0 = 0 := by omega
  clear hi0
  go_upto_block 0 with fail
  go_cut [5] (fun iv wx => ∃ i : Nat, iv = .int .i64 i ∧ i ≤ 8 ∧ Hid (RaceR w0.heap.size wx ⟨cl, cd, A, zs.length, d, zs⟩) ∧ Hid (LitAt wx w.heap.size 24 [.int .i64 cl, .bool cd, .slice A zs.length d]) ∧ Hid (LitAt wx (w.heap.size + 1) 53 [.int .i64 0, .int .i64 0, .int .i64 0]) ∧ Hid (Dr c w wx (n + 20)))
  case first =>
    go_wp2_with fail
    go_loopw [5, 6] (fun iv kv wr => ∃ (i k : Nat), k ≤ zs.length ∧ i ≤ 8 ∧ iv = .int .i64 i ∧ kv = .int .i64 k ∧ Hid (RaceR w0.heap.size wr ⟨cl, cd, A, zs.length, d, zs⟩) ∧ Hid (LitAt wr w.heap.size 24 [.int .i64 cl, .bool cd, .slice A zs.length d]) ∧ Hid (LitAt wr (w.heap.size + 1) 53 [.int .i64 0, .int .i64 0, .int .i64 0]) ∧ Hid (Dr c w wr (n + 2 + 2 * k)))
      (fun _ kv _ => zs.length - (intOf kv).toNat)
    case atStart => exact ⟨i0, 0, by omega, by omega, rfl, rfl, HR.out, HB.out, HZ.out, HD.out.mono (by omega)⟩
    case round =>
      clear HR HB HZ HD
      obtain ⟨i, k, hk, hi, rfl, rfl, HR, HB, HZ, HD⟩ := hrel
      have hb2 := HB.out.range 2 _ rfl
      simp only [Nat.zero_add] at hb2
      by_cases hkl : k < zs.length
      · have hki : (k : Int) < (zs.length : Int) := by omega
        go_wp2_with fail
        refine (one_dr 2 HD.out (by omega) (by omega)).mono ?_
        rintro e w' ⟨q, rfl, hd, hg⟩
        replace HD := Lib.hid hd
        replace HR := Lib.hid (RaceR.keptC HR.out (by omega) hg)
        replace HB := Lib.hid (HB.out.keptC (by omega) hg)
        replace HZ := Lib.hid (HZ.out.keptC (by omega) hg)
        clear hd hg hb2
        have hb2 := HB.out.range 2 _ rfl
        simp only [Nat.zero_add] at hb2
        cases q with
        | false =>
          go_wp2_with fail
          go_meet
          exact ⟨i, rfl, by omega, HR, HB, HZ, Lib.hid (HD.out.mono (by omega))⟩
        | true =>
          have hj : (i + k) % zs.length < zs.length := Nat.mod_lt _ (by omega)
          obtain ⟨j, hje⟩ : ∃ j, j = (i + k) % zs.length := ⟨_, rfl⟩
          rw [← hje] at hj
          have hrem : ((i : Int) + (k : Int)).tmod (zs.length : Int) = (j : Int) := by rw [hje]; rfl
          have hji : (j : Int) < (zs.length : Int) := by omega
          have hj0 : (0 : Int) ≤ (j : Int) := by omega
          have hwr : IntKind.i64.wrap ((i : Int) + (k : Int)) = (i : Int) + (k : Int) := by rw [IntKind.wrap_i64]; omega
          obtain ⟨q, cap, he, _, _, _⟩ := Row.form HR.out.1 (by simp; omega)
          simp only [Race.sv, Value.slice.injEq, List.length_map] at he
          obtain ⟨rfl, _, rfl⟩ := he
          have hcs := EntR.cells HR.out hj
          have hst := hcs.1
          clear hcs hje
          have hd1 := After.keep hb2
          have hd2 := After.keep hst
          go_wp2_with fail
          refine region_after (by kernel_rfl) (by kernel_rfl) ?_
          repeat (any_goals (first | go_big_quiet_step (fail)  | quiet_step (fail) | (refine wpQuiet_step (fun K hK => ?_); go_simp; split <;> (refine hK _ ?_; clear hK K))))
          all_goals (refine wpQuiet_nil ?_; intro s)
          all_goals go_wp2_with fail
          all_goals have HR := Lib.hid (RaceR.below HR.out s.hb)
          all_goals have HB := Lib.hid (HB.out.below s.hb)
          all_goals have HZ := Lib.hid (HZ.out.below s.hb)
          all_goals have HD := Lib.hid (HD.out.below s.hb)
          all_goals first
            | (go_meet
               exact ⟨j, rfl, by omega, HR, HB, HZ, Lib.hid (HD.out.mono (by omega))⟩)
            | (go_roundw
               case rel => exact ⟨i, k + 1, by omega, by omega, rfl, by go_num, HR.out, HB.out, HZ.out, HD.out.mono (by omega)⟩
               case measure => simp [intOf]; omega)
      · have hki : ¬ (k : Int) < (zs.length : Int) := by omega
        go_wp2_with fail
        go_meet
        exact ⟨i, rfl, by omega, HR, HB, HZ, Lib.hid (HD.out.mono (by omega))⟩
  case rest =>
    clear HR HB HZ HD
    obtain ⟨i, rfl, hi, HR, HB, HZ, HD⟩ := hcut
    go_wp2_with fail
    refine (among_dr [1, 1, 2, 2, 3, 3, 3, 4, 4, 5, 6] 1 6 HD.out _ rfl _ _ rfl (by omega) _).mono ?_
    rintro e w' ⟨y, rfl, hy, hd, hg⟩
    replace HD := Lib.hid hd
    replace HR := Lib.hid (RaceR.keptC HR.out (by omega) hg)
    replace HB := Lib.hid (HB.out.keptC (by omega) hg)
    replace HZ := Lib.hid (HZ.out.keptC (by omega) hg)
    clear hd hg
    have hb2 := HB.out.range 2 _ rfl
    simp only [Nat.zero_add] at hb2
    go_upto_region 8 with fail
    go_cut [66] (fun bv wx => (∃ q : Bool, bv = .bool q) ∧ Hid (RaceR w0.heap.size wx ⟨cl, cd, A, zs.length, d, zs⟩) ∧ Hid (LitAt wx w.heap.size 24 [.int .i64 cl, .bool cd, .slice A zs.length d]) ∧ Hid (LitAt wx (w.heap.size + 1) 53 [.int .i64 0, .int .i64 0, .int .i64 0]) ∧ Hid (Dr c w wx (n + 26)))
    case first =>
      by_cases hil : i < zs.length
      · have hii : (i : Int) < (zs.length : Int) := by omega
        have hi0 : (0 : Int) ≤ (i : Int) := by omega
        obtain ⟨q, cap, he, _, _, _⟩ := Row.form HR.out.1 (by simp; omega)
        simp only [Race.sv, Value.slice.injEq, List.length_map] at he
        obtain ⟨rfl, _, rfl⟩ := he
        have hst := (EntR.cells HR.out hil).1
        obtain ⟨z, hz⟩ : ∃ z, z = zs[i].state := ⟨_, rfl⟩
        rw [← hz] at hst
        clear hz
        by_cases hz0 : z = 0
        · subst hz0
          go_wp2_with fail
          refine (one_dr 2 HD.out (by omega) (by omega)).mono ?_
          rintro e w' ⟨q, rfl, hd, hg⟩
          replace HD := Lib.hid hd
          replace HR := Lib.hid (RaceR.keptC HR.out (by omega) hg)
          replace HB := Lib.hid (HB.out.keptC (by omega) hg)
          replace HZ := Lib.hid (HZ.out.keptC (by omega) hg)
          clear hd hg hb2 hst
          go_wp2_with fail
          go_meet
          exact ⟨⟨_, rfl⟩, HR, HB, HZ, Lib.hid (HD.out.mono (by omega))⟩
        · have hzb : (z == 0) = false := by simpa using hz0
          go_wp2_with fail
          go_meet
          exact ⟨⟨_, rfl⟩, HR, HB, HZ, Lib.hid (HD.out.mono (by omega))⟩
      · have hii : ¬ (i : Int) < (zs.length : Int) := by omega
        go_wp2_with fail
        go_meet
        exact ⟨⟨_, rfl⟩, HR, HB, HZ, Lib.hid (HD.out.mono (by omega))⟩
    case rest =>
      clear HR HB HZ HD hb2
      obtain ⟨⟨q, rfl⟩, HR, HB, HZ, HD⟩ := hcut
      go_upto_if 66 with fail
      go_cut [7] (fun yv wx => ∃ y : Int, yv = .int .i64 y ∧ (1 ≤ y ∧ y ≤ 6) ∧ Hid (RaceR w0.heap.size wx ⟨cl, cd, A, zs.length, d, zs⟩) ∧ Hid (LitAt wx w.heap.size 24 [.int .i64 cl, .bool cd, .slice A zs.length d]) ∧ Hid (LitAt wx (w.heap.size + 1) 53 [.int .i64 0, .int .i64 0, .int .i64 0]) ∧ Hid (Dr c w wx (n + 26)))
      case first =>
        cases q with
        | true =>
          go_wp2_with fail
          go_meet
          exact ⟨2, rfl, by omega, HR, HB, HZ, HD⟩
        | false =>
          go_wp2_with fail
          go_meet
          exact ⟨y, rfl, by omega, HR, HB, HZ, HD⟩
      case rest =>
        clear HR HB HZ HD hy
        obtain ⟨y, rfl, hy, HR, HB, HZ, HD⟩ := hcut
        have hg0 : w.heap.size + 1 < wc.heap.size := HZ.out.lt
        have HK := Lib.hid (show ∀ k, RaceBlk ⟨cl, cd, A, zs.length, d, zs⟩ k → k < w.heap.size from HBK.out)
        go_upto_block 2 with fail
        have HP := Lib.hid (show InSt (w.heap.size + 1) wc.heap.size w0.heap.size c w (wc.alloc (.cells #[.int .i64 y, .int .i64 i, .int .i64 0] 53)) (n + 26) ⟨cl, cd, A, zs.length, d, zs⟩ y i 0 from
          ⟨⟨by simp only; omega, by simp only; omega, by simp only; omega⟩, HD.out.alloc _, ⟨RaceR.below HR.out (below_alloc (Below.refl _ _) _), HK.out⟩, HZ.out.alloc _, LitAt.new wc 53 [.int .i64 y, .int .i64 i, .int .i64 0] wc.heap.size rfl⟩)
        generalize wc.alloc (.cells #[.int .i64 y, .int .i64 i, .int .i64 0] 53) = W1 at HP ⊢
        clear HR HB HZ HD HK HBK
        generalize wc.heap.size = g at *
        go_cut [] (fun wx => ∃ a0 a1 a2, Hid (InSt (w.heap.size + 1) g w0.heap.size c w wx (n + 28) ⟨cl, cd, A, zs.length, d, zs⟩ a0 a1 a2))
        case first =>
          obtain ⟨q0, q1, q2, q3, q4, q5⟩ := HP.out.cells
          by_cases h1 : y = 1
          · subst h1
            go_wp2_with fail
            refine (among_dr [1,10,60,300,40000,0] (-1) 40000 HP.out.2.1 _ rfl _ _ rfl (by omega) _).mono ?_
            rintro e w' ⟨v, rfl, hv, hd, hg⟩
            replace HP := Lib.hid (HP.out.keptC hc (by omega) (by omega) hd hg)
            clear hd hg q0 q1 q2 q3 q4 q5
            obtain ⟨q0, q1, q2, q3, q4, q5⟩ := HP.out.cells
            go_wp2_with fail
            go_meet
            exact ⟨_, _, _, Lib.hid (((HP.out.put0 hlt hg0 (by omega) 1 (by omega)).put1 hlt hg0 (by omega) 0 (by omega)).put2 hlt hg0 (by omega) v (by omega))⟩
          by_cases h3 : y = 3
          · subst h3
            go_wp2_with fail
            refine (among_dr [31,32,45,31,30] (-1) 40000 HP.out.2.1 _ rfl _ _ rfl (by omega) _).mono ?_
            rintro e w' ⟨v, rfl, hv, hd, hg⟩
            replace HP := Lib.hid (HP.out.keptC hc (by omega) (by omega) hd hg)
            clear hd hg q0 q1 q2 q3 q4 q5
            obtain ⟨q0, q1, q2, q3, q4, q5⟩ := HP.out.cells
            go_wp2_with fail
            go_meet
            exact ⟨_, _, _, Lib.hid (HP.out.put2 hlt hg0 (by omega) v (by omega))⟩
          by_cases h6 : y = 6
          · subst h6
            go_wp2_with fail
            go_meet
            exact ⟨_, _, _, Lib.hid ((HP.out.put1 hlt hg0 (by omega) 0 (by omega)).mono (by omega))⟩
          go_wp2_with fail
          go_meet
          exact ⟨_, _, _, Lib.hid (HP.out.mono (by omega))⟩
        case rest =>
          clear HP
          obtain ⟨a0, a1, a2, HP⟩ := hcut
          go_wp2_with fail
          refine (pick_dr 40 HP.out.2.1 (by omega) (by omega) (by omega)).mono ?_
          rintro e w' ⟨x, hx, rfl, hd, hg⟩
          replace HP := Lib.hid (HP.out.keptC hc (by omega) (by omega) hd hg)
          clear hd hg
          go_upto_block 3 with fail
          go_cut [88] (fun _ wx => ∃ b0 b1 b2, Hid (InSt (w.heap.size + 1) g w0.heap.size c w wx (n + 32) ⟨cl, cd, A, zs.length, d, zs⟩ b0 b1 b2))
          case first =>
            obtain ⟨q0, q1, q2, q3, q4, q5⟩ := HP.out.cells
            by_cases h0 : (x : Int) = 0
            · skip
              go_wp2_with fail
              refine (among_dr [0,7] (-1) 40000 HP.out.2.1 _ rfl _ _ rfl (by omega) _).mono ?_
              rintro e w' ⟨v, rfl, hv, hd, hg⟩
              replace HP := Lib.hid (HP.out.keptC hc (by omega) (by omega) hd hg)
              clear hd hg q0 q1 q2 q3 q4 q5
              obtain ⟨q0, q1, q2, q3, q4, q5⟩ := HP.out.cells
              go_wp2_with fail
              go_meet
              exact ⟨_, _, _, Lib.hid (HP.out.put0 hlt hg0 (by omega) v (by omega))⟩
            by_cases h1 : (x : Int) = 1
            · skip
              go_wp2_with fail
              refine (among_dr [-1,8,1] (-1) 40000 HP.out.2.1 _ rfl _ _ rfl (by omega) _).mono ?_
              rintro e w' ⟨v, rfl, hv, hd, hg⟩
              replace HP := Lib.hid (HP.out.keptC hc (by omega) (by omega) hd hg)
              clear hd hg q0 q1 q2 q3 q4 q5
              obtain ⟨q0, q1, q2, q3, q4, q5⟩ := HP.out.cells
              go_wp2_with fail
              go_meet
              exact ⟨_, _, _, Lib.hid (HP.out.put1 hlt hg0 (by omega) v (by omega))⟩
            by_cases h2 : (x : Int) = 2
            · skip
              go_wp2_with fail
              refine (among_dr [-1,100,5] (-1) 40000 HP.out.2.1 _ rfl _ _ rfl (by omega) _).mono ?_
              rintro e w' ⟨v, rfl, hv, hd, hg⟩
              replace HP := Lib.hid (HP.out.keptC hc (by omega) (by omega) hd hg)
              clear hd hg q0 q1 q2 q3 q4 q5
              obtain ⟨q0, q1, q2, q3, q4, q5⟩ := HP.out.cells
              go_wp2_with fail
              go_meet
              exact ⟨_, _, _, Lib.hid (HP.out.put2 hlt hg0 (by omega) v (by omega))⟩
            go_wp2_with fail
            go_meet
            exact ⟨_, _, _, Lib.hid (HP.out.mono (by omega))⟩
          case rest =>
            clear HP
            obtain ⟨a0, a1, a2, HP⟩ := hcut
            obtain ⟨q0, q1, q2, q3, q4, q5⟩ := HP.out.cells
            have hr := HP.out.2.2.2.2.range
            have hz := HP.out.2.2.2.1.range
            have y0 := hz 0 _ rfl
            have y1 := hz 1 _ rfl
            have y2 := hz 2 _ rfl
            have yf := HP.out.2.2.2.1.frozen
            simp only [Nat.zero_add] at y0 y1 y2
            go_wp2_with fail
            refine bodyPost_ret (v := .agg #[.int .i64 a0, .int .i64 a1, .int .i64 a2]) (by simp [results, Try.results85, go_sem, y0, y1, y2]) rfl ⟨⟨a0, a1, a2⟩, rfl, HP.out.1, ?_⟩
            have hfin : Dr c w (((wc.setCell ⟨w.heap.size + 1, 0, none⟩ (.int .i64 a0)).setCell ⟨w.heap.size + 1, 1, none⟩ (.int .i64 a1)).setCell ⟨w.heap.size + 1, 2, none⟩ (.int .i64 a2)) (n + 32) :=
              HP.out.2.1.own hlt (grown_trans (grown_trans grown_setCell grown_setCell) grown_setCell) (fun g e => by have := Option.some.inj e; omega)
            have hfr : RaceR w0.heap.size (((wc.setCell ⟨w.heap.size + 1, 0, none⟩ (.int .i64 a0)).setCell ⟨w.heap.size + 1, 1, none⟩ (.int .i64 a1)).setCell ⟨w.heap.size + 1, 2, none⟩ (.int .i64 a2)) ⟨cl, cd, A, zs.length, d, zs⟩ := by
              have hne : ∀ k, RaceBlk ⟨cl, cd, A, zs.length, d, zs⟩ k → k ≠ w.heap.size + 1 := fun k hk => by have := HP.out.2.2.1.2 k hk; omega
              exact ((HP.out.2.2.1.1.setFar hne _).setFar hne _).setFar hne _
            exact ⟨hfr, HW.out.step (hfin.cur.mono (by omega)) hfin.grown, hfin.grown⟩
end Go.Proofs.Ytfmgnbkneccekaa
