/- The draw of a protest. Condition: the cursor has not come too far. -/
import Derived.Test.YtabihggfnofcbaaDrw
import Derived.Test.YtabihggfnofcbaaPend
import Derived.Deep.DeepCutAuto
import Derived.Deep.CutBlock
namespace Go.Proofs.Ytabihggfnofcbaa
open Go Go.RowKit

/-- What a drawn protest holds. -/
def DrawnPr (p : Prot) : Prop := (-200000 ≤ p.id ∧ p.id ≤ 200000) ∧ (-200000 ≤ p.against ∧ p.against ≤ 200000) ∧ (-200000 ≤ p.by_ ∧ p.by_ ≤ 200000) ∧ (-200000 ≤ p.made ∧ p.made ≤ 200000) ∧ (-200000 ≤ p.state ∧ p.state ≤ 200000) ∧ (-200000 ≤ p.votes ∧ p.votes ≤ 200000)

/-- A guard: the operation is a store of this type. -/
theorem at_store_ (t : TypeId) {P : Program} {ops : Array Oper} {Q : Exit → Act → World → Prop} {d : Option Tmp} {x y : Operand} {ty : TypeId} {pos : String} {af : Array Edge} {g : Option (Nat × Bool)} {rest : List Oper} {a : Act} {w : World}
    (h : wpList P ops Q (⟨d, .store t x y, ty, pos, af, g⟩ :: rest) a w) : wpList P ops Q (⟨d, .store t x y, ty, pos, af, g⟩ :: rest) a w := h
abbrev z6 : List Value := [.int .i64 0, .int .i64 0, .int .i64 0, .int .i64 0, .int .i64 0, .int .i64 0]
def InPr (g0 gp c : Nat) (w wx : World) (n : Nat) (a0 a1 a2 a3 a4 a5 : Int) : Prop := DrawnPr ⟨a0, a1, a2, a3, a4, a5⟩ ∧ Dr c w wx n ∧ Row g0 25 6 wx (.slice (some ⟨g0, 0, none⟩) 1 1) [z6] ∧ LitAt wx gp 25 [.int .i64 a0, .int .i64 a1, .int .i64 a2, .int .i64 a3, .int .i64 a4, .int .i64 a5]
theorem InPr.keptC {g0 gp c : Nat} {w wx wy : World} {n n' : Nat} {a0 a1 a2 a3 a4 a5 : Int} (h : InPr g0 gp c w wx n a0 a1 a2 a3 a4 a5) (h0 : c < g0) (hp : c < gp) (hd : Dr c w wy n') (hg : wx.grownBy wy (some c)) : InPr g0 gp c w wy n' a0 a1 a2 a3 a4 a5 :=
  ⟨h.1, hd, h.2.2.1.keptC h0 hg, h.2.2.2.keptC hp hg⟩
theorem InPr.mono {g0 gp c : Nat} {w wx : World} {n n' : Nat} {a0 a1 a2 a3 a4 a5 : Int} (h : InPr g0 gp c w wx n a0 a1 a2 a3 a4 a5) (hn : n ≤ n') : InPr g0 gp c w wx n' a0 a1 a2 a3 a4 a5 := ⟨h.1, h.2.1.mono hn, h.2.2⟩
theorem InPr.put0 {g0 gp c : Nat} {w wx : World} {n : Nat} {a0 a1 a2 a3 a4 a5 : Int} (h : InPr g0 gp c w wx n a0 a1 a2 a3 a4 a5) (h0 : c < w.heap.size) (hp : g0 < gp) (hb : w.heap.size ≤ g0) (y : Int) (hy : -200000 ≤ y ∧ y ≤ 200000) : InPr g0 gp c w (wx.setCell ⟨gp, 0, none⟩ (.int .i64 y)) n y a1 a2 a3 a4 a5 := by
  obtain ⟨⟨h1, h2, h3, h4, h5, h6⟩, hd, hz, hl⟩ := h
  exact ⟨⟨by first | exact hy | assumption, by first | exact hy | assumption, by first | exact hy | assumption, by first | exact hy | assumption, by first | exact hy | assumption, by first | exact hy | assumption⟩, hd.own h0 grown_setCell (fun g e => by have := Option.some.inj e; omega), hz.putNe_ (by simp only [Value.ownBlock]; intro e; simp at e; omega) _, by simpa using hl.put_ 0 (.int .i64 y)⟩
theorem InPr.put1 {g0 gp c : Nat} {w wx : World} {n : Nat} {a0 a1 a2 a3 a4 a5 : Int} (h : InPr g0 gp c w wx n a0 a1 a2 a3 a4 a5) (h0 : c < w.heap.size) (hp : g0 < gp) (hb : w.heap.size ≤ g0) (y : Int) (hy : -200000 ≤ y ∧ y ≤ 200000) : InPr g0 gp c w (wx.setCell ⟨gp, 1, none⟩ (.int .i64 y)) n a0 y a2 a3 a4 a5 := by
  obtain ⟨⟨h1, h2, h3, h4, h5, h6⟩, hd, hz, hl⟩ := h
  exact ⟨⟨by first | exact hy | assumption, by first | exact hy | assumption, by first | exact hy | assumption, by first | exact hy | assumption, by first | exact hy | assumption, by first | exact hy | assumption⟩, hd.own h0 grown_setCell (fun g e => by have := Option.some.inj e; omega), hz.putNe_ (by simp only [Value.ownBlock]; intro e; simp at e; omega) _, by simpa using hl.put_ 1 (.int .i64 y)⟩
theorem InPr.put2 {g0 gp c : Nat} {w wx : World} {n : Nat} {a0 a1 a2 a3 a4 a5 : Int} (h : InPr g0 gp c w wx n a0 a1 a2 a3 a4 a5) (h0 : c < w.heap.size) (hp : g0 < gp) (hb : w.heap.size ≤ g0) (y : Int) (hy : -200000 ≤ y ∧ y ≤ 200000) : InPr g0 gp c w (wx.setCell ⟨gp, 2, none⟩ (.int .i64 y)) n a0 a1 y a3 a4 a5 := by
  obtain ⟨⟨h1, h2, h3, h4, h5, h6⟩, hd, hz, hl⟩ := h
  exact ⟨⟨by first | exact hy | assumption, by first | exact hy | assumption, by first | exact hy | assumption, by first | exact hy | assumption, by first | exact hy | assumption, by first | exact hy | assumption⟩, hd.own h0 grown_setCell (fun g e => by have := Option.some.inj e; omega), hz.putNe_ (by simp only [Value.ownBlock]; intro e; simp at e; omega) _, by simpa using hl.put_ 2 (.int .i64 y)⟩
theorem InPr.put3 {g0 gp c : Nat} {w wx : World} {n : Nat} {a0 a1 a2 a3 a4 a5 : Int} (h : InPr g0 gp c w wx n a0 a1 a2 a3 a4 a5) (h0 : c < w.heap.size) (hp : g0 < gp) (hb : w.heap.size ≤ g0) (y : Int) (hy : -200000 ≤ y ∧ y ≤ 200000) : InPr g0 gp c w (wx.setCell ⟨gp, 3, none⟩ (.int .i64 y)) n a0 a1 a2 y a4 a5 := by
  obtain ⟨⟨h1, h2, h3, h4, h5, h6⟩, hd, hz, hl⟩ := h
  exact ⟨⟨by first | exact hy | assumption, by first | exact hy | assumption, by first | exact hy | assumption, by first | exact hy | assumption, by first | exact hy | assumption, by first | exact hy | assumption⟩, hd.own h0 grown_setCell (fun g e => by have := Option.some.inj e; omega), hz.putNe_ (by simp only [Value.ownBlock]; intro e; simp at e; omega) _, by simpa using hl.put_ 3 (.int .i64 y)⟩
theorem InPr.put4 {g0 gp c : Nat} {w wx : World} {n : Nat} {a0 a1 a2 a3 a4 a5 : Int} (h : InPr g0 gp c w wx n a0 a1 a2 a3 a4 a5) (h0 : c < w.heap.size) (hp : g0 < gp) (hb : w.heap.size ≤ g0) (y : Int) (hy : -200000 ≤ y ∧ y ≤ 200000) : InPr g0 gp c w (wx.setCell ⟨gp, 4, none⟩ (.int .i64 y)) n a0 a1 a2 a3 y a5 := by
  obtain ⟨⟨h1, h2, h3, h4, h5, h6⟩, hd, hz, hl⟩ := h
  exact ⟨⟨by first | exact hy | assumption, by first | exact hy | assumption, by first | exact hy | assumption, by first | exact hy | assumption, by first | exact hy | assumption, by first | exact hy | assumption⟩, hd.own h0 grown_setCell (fun g e => by have := Option.some.inj e; omega), hz.putNe_ (by simp only [Value.ownBlock]; intro e; simp at e; omega) _, by simpa using hl.put_ 4 (.int .i64 y)⟩
theorem InPr.put5 {g0 gp c : Nat} {w wx : World} {n : Nat} {a0 a1 a2 a3 a4 a5 : Int} (h : InPr g0 gp c w wx n a0 a1 a2 a3 a4 a5) (h0 : c < w.heap.size) (hp : g0 < gp) (hb : w.heap.size ≤ g0) (y : Int) (hy : -200000 ≤ y ∧ y ≤ 200000) : InPr g0 gp c w (wx.setCell ⟨gp, 5, none⟩ (.int .i64 y)) n a0 a1 a2 a3 a4 y := by
  obtain ⟨⟨h1, h2, h3, h4, h5, h6⟩, hd, hz, hl⟩ := h
  exact ⟨⟨by first | exact hy | assumption, by first | exact hy | assumption, by first | exact hy | assumption, by first | exact hy | assumption, by first | exact hy | assumption, by first | exact hy | assumption⟩, hd.own h0 grown_setCell (fun g e => by have := Option.some.inj e; omega), hz.putNe_ (by simp only [Value.ownBlock]; intro e; simp at e; omega) _, by simpa using hl.put_ 5 (.int .i64 y)⟩
theorem InPr.cells {g0 gp c : Nat} {w wx : World} {n : Nat} {a0 a1 a2 a3 a4 a5 : Int} (h : InPr g0 gp c w wx n a0 a1 a2 a3 a4 a5) :
    wx.cell? ⟨gp, 0, none⟩ = some (.int .i64 a0) ∧ wx.cell? ⟨gp, 1, none⟩ = some (.int .i64 a1) ∧ wx.cell? ⟨gp, 2, none⟩ = some (.int .i64 a2) ∧ wx.cell? ⟨gp, 3, none⟩ = some (.int .i64 a3) ∧ wx.cell? ⟨gp, 4, none⟩ = some (.int .i64 a4) ∧ wx.cell? ⟨gp, 5, none⟩ = some (.int .i64 a5) ∧ wx.frozen? ⟨gp, 0, none⟩ = false ∧ wx.frozen? ⟨gp, 1, none⟩ = false ∧ wx.frozen? ⟨gp, 2, none⟩ = false ∧ wx.frozen? ⟨gp, 3, none⟩ = false ∧ wx.frozen? ⟨gp, 4, none⟩ = false ∧ wx.frozen? ⟨gp, 5, none⟩ = false := by
  have hr := h.2.2.2.range
  refine ⟨?_, ?_, ?_, ?_, ?_, ?_, h.2.2.2.frozen _, h.2.2.2.frozen _, h.2.2.2.frozen _, h.2.2.2.frozen _, h.2.2.2.frozen _, h.2.2.2.frozen _⟩
  · simpa using hr 0 _ rfl
  · simpa using hr 1 _ rfl
  · simpa using hr 2 _ rfl
  · simpa using hr 3 _ rfl
  · simpa using hr 4 _ rfl
  · simpa using hr 5 _ rfl
theorem InPr.put {g0 gp c : Nat} {w wx : World} {n : Nat} {a0 a1 a2 a3 a4 a5 : Int} (h : InPr g0 gp c w wx n a0 a1 a2 a3 a4 a5) (h0 : c < w.heap.size) (hp : g0 < gp) (hb : w.heap.size ≤ g0) (j : Nat) (hj : j < 6) (y : Int) (hy : -200000 ≤ y ∧ y ≤ 200000) : ∃ b0 b1 b2 b3 b4 b5, InPr g0 gp c w (wx.setCell ⟨gp, j, none⟩ (.int .i64 y)) n b0 b1 b2 b3 b4 b5 := by
  match j with
  | 0 => exact ⟨_, _, _, _, _, _, h.put0 h0 hp hb y hy⟩
  | 1 => exact ⟨_, _, _, _, _, _, h.put1 h0 hp hb y hy⟩
  | 2 => exact ⟨_, _, _, _, _, _, h.put2 h0 hp hb y hy⟩
  | 3 => exact ⟨_, _, _, _, _, _, h.put3 h0 hp hb y hy⟩
  | 4 => exact ⟨_, _, _, _, _, _, h.put4 h0 hp hb y hy⟩
  | 5 => exact ⟨_, _, _, _, _, _, h.put5 h0 hp hb y hy⟩

set_option maxRecDepth 100000 in
set_option maxHeartbeats 8000000 in
theorem protest_any (c n : Nat) (id made : Int) (w : World) (h : Cur c w n) (hn : n ≤ 100000) (hid : -100000 ≤ id ∧ id ≤ 100000) (hmade : -100000 ≤ made ∧ made ≤ 100000) :
    Calls Try.prog 92 #[.pointer (some ⟨c, 0, none⟩), .int .i64 id, .int .i64 made] w fun e w' => ∃ p : Prot, e = .returned p.val ∧ DrawnPr p ∧ Cur c w' (n + 40) ∧ w.grownBy w' (some c) := by
  have hlt := h.lt
  have HD := Lib.hid ((Dr.start h).alloc (.cells #[.int .i64 0, .int .i64 0, .int .i64 0, .int .i64 0, .int .i64 0, .int .i64 0] 25))
  have HT := Lib.hid (show Row w.heap.size 25 6 (w.alloc (.cells #[.int .i64 0, .int .i64 0, .int .i64 0, .int .i64 0, .int .i64 0, .int .i64 0] 25)) (.slice (some ⟨w.heap.size, 0, none⟩) 1 1) [z6] from Row.lit w 25 6 [z6] (by simp) (by simp [maxLen]) (Nat.le_refl _) _ (by simp))
  clear h
  go_enter Try.func92, Try.ntmps92
  go_upto_region 1 with fail
  generalize w.alloc (.cells #[.int .i64 0, .int .i64 0, .int .i64 0, .int .i64 0, .int .i64 0, .int .i64 0] 25) = W0 at *
  go_wp2_with fail
  refine (among_dr [1, 7, 7, 999] 1 999 HD.out _ rfl _ _ rfl (by omega) _).mono ?_
  rintro e w' ⟨x1, rfl, hx1, hd, hg⟩
  replace HD := Lib.hid hd
  replace HT := Lib.hid (HT.out.keptC (by omega) hg)
  clear hd hg
  go_wp2_with fail
  refine (among_dr [2, 3, 7] 2 7 HD.out _ rfl _ _ rfl (by omega) _).mono ?_
  rintro e w' ⟨x2, rfl, hx2, hd, hg⟩
  replace HD := Lib.hid hd
  replace HT := Lib.hid (HT.out.keptC (by omega) hg)
  clear hd hg
  go_wp2_with fail
  refine (pick_dr 5 HD.out (by omega) (by omega) (by omega)).mono ?_
  rintro e w' ⟨x4, hx4, rfl, hd, hg⟩
  replace HD := Lib.hid hd
  replace HT := Lib.hid (HT.out.keptC (by omega) hg)
  clear hd hg
  have hgp0 : w.heap.size < w'.heap.size := (HT.out.lt _ rfl).2
  go_upto_region 2 with fail
  have HP := Lib.hid (show InPr w.heap.size w'.heap.size c w (w'.alloc (.cells #[.int .i64 id, .int .i64 x1, .int .i64 x2, .int .i64 made, .int .i64 x4, .int .i64 0] 25)) (n + 6) id x1 x2 made x4 0 from
    ⟨⟨by simp only; omega, by simp only; omega, by simp only; omega, by simp only; omega, by simp only; omega, by simp only; omega⟩, (HD.out.alloc _).mono (by omega), HT.out.alloc _, LitAt.new w' 25 [.int .i64 id, .int .i64 x1, .int .i64 x2, .int .i64 made, .int .i64 x4, .int .i64 0] w'.heap.size rfl⟩)
  generalize w'.alloc (.cells #[.int .i64 id, .int .i64 x1, .int .i64 x2, .int .i64 made, .int .i64 x4, .int .i64 0] 25) = W at *
  clear HD HT
  generalize w'.heap.size = gp at *
  have hgp := hgp0
  clear hgp0
  go_cut [28] (fun b wx => (∃ q : Bool, b = .bool q) ∧ Hid (InPr w.heap.size gp c w wx (n + 8) id x1 x2 made x4 0))
  case first =>
    obtain ⟨q0, q1, q2, q3, q4, q5, q6, q7, q8, q9, q10, q11⟩ := HP.out.cells
    by_cases he : x2 = x1
    · subst he
      go_wp2_with fail
      refine (one_dr 12 HP.out.2.1 (by omega) (by omega)).mono ?_
      rintro e w' ⟨b, rfl, hd, hg⟩
      replace HP := Lib.hid (HP.out.keptC hlt (by omega) hd hg)
      clear hd hg
      go_wp2_with fail
      go_meet
      exact ⟨⟨_, rfl⟩, HP.out⟩
    · go_wp2_with fail
      go_meet
      exact ⟨⟨_, rfl⟩, HP.out.mono (by omega)⟩
  case rest =>
    obtain ⟨⟨q, rfl⟩, HP⟩ := hcut
    go_upto_if 28 with fail
    go_cut [] (fun wx => ∃ a0 a1 a2 a3 a4 a5, Hid (InPr w.heap.size gp c w wx (n + 8) a0 a1 a2 a3 a4 a5))
    case first =>
      obtain ⟨q0, q1, q2, q3, q4, q5, q6, q7, q8, q9, q10, q11⟩ := HP.out.cells
      cases q with
      | true =>
        go_wp2_with fail
        go_meet
        exact (HP.out.put hlt hgp (Nat.le_refl _) _ (by omega) 8 (by omega)).imp fun _ => Exists.imp fun _ => Exists.imp fun _ => Exists.imp fun _ => Exists.imp fun _ => Exists.imp fun _ h => Lib.hid h
      | false =>
        go_wp2_with fail
        go_meet
        exact ⟨_, _, _, _, _, _, HP⟩
    case rest =>
      clear HP
      obtain ⟨a0, a1, a2, a3, a4, a5, HP⟩ := hcut
      have hst := HP.out.1.2.2.2.2.1
      simp only at hst
      obtain ⟨q0, q1, q2, q3, q4, q5, q6, q7, q8, q9, q10, q11⟩ := HP.out.cells
      go_upto_block 0 with fail
      clear q0 q1 q2 q3 q4 q5 q6 q7 q8 q9 q10 q11
      go_cut [31] (fun _ wx => ∃ b0 b1 b2 b3 b4 b5, Hid (InPr w.heap.size gp c w wx (n + 10) b0 b1 b2 b3 b4 b5))
      case first =>
        by_cases h1 : a4 = 1
        · subst h1
          go_wp2_with fail
          refine (among_dr [-5,-1,0,1,4,5] (-100000) 100000 HP.out.2.1 _ rfl _ _ rfl (by omega) _).mono ?_
          rintro e w' ⟨y, rfl, hy, hd, hg⟩
          replace HP := Lib.hid (HP.out.keptC hlt (by omega) hd hg)
          clear hd hg
          obtain ⟨q0, q1, q2, q3, q4, q5, q6, q7, q8, q9, q10, q11⟩ := HP.out.cells
          go_wp2_with fail
          go_meet
          exact (HP.out.put hlt hgp (Nat.le_refl _) _ (by omega) y (by omega)).imp fun _ => Exists.imp fun _ => Exists.imp fun _ => Exists.imp fun _ => Exists.imp fun _ => Exists.imp fun _ h => Lib.hid (h.mono (by omega))
        by_cases h2 : a4 = 2
        · subst h2
          go_wp2_with fail
          refine (among_dr [1,3,5] (-100000) 100000 HP.out.2.1 _ rfl _ _ rfl (by omega) _).mono ?_
          rintro e w' ⟨y, rfl, hy, hd, hg⟩
          replace HP := Lib.hid (HP.out.keptC hlt (by omega) hd hg)
          clear hd hg
          obtain ⟨q0, q1, q2, q3, q4, q5, q6, q7, q8, q9, q10, q11⟩ := HP.out.cells
          go_wp2_with fail
          go_meet
          exact (HP.out.put hlt hgp (Nat.le_refl _) _ (by omega) y (by omega)).imp fun _ => Exists.imp fun _ => Exists.imp fun _ => Exists.imp fun _ => Exists.imp fun _ => Exists.imp fun _ h => Lib.hid (h.mono (by omega))
        by_cases h3 : a4 = 3
        · subst h3
          go_wp2_with fail
          refine (among_dr [0,-1,-5] (-100000) 100000 HP.out.2.1 _ rfl _ _ rfl (by omega) _).mono ?_
          rintro e w' ⟨y, rfl, hy, hd, hg⟩
          replace HP := Lib.hid (HP.out.keptC hlt (by omega) hd hg)
          clear hd hg
          obtain ⟨q0, q1, q2, q3, q4, q5, q6, q7, q8, q9, q10, q11⟩ := HP.out.cells
          go_wp2_with fail
          go_meet
          exact (HP.out.put hlt hgp (Nat.le_refl _) _ (by omega) y (by omega)).imp fun _ => Exists.imp fun _ => Exists.imp fun _ => Exists.imp fun _ => Exists.imp fun _ => Exists.imp fun _ h => Lib.hid (h.mono (by omega))
        go_wp2_with fail
        go_meet
        exact ⟨_, _, _, _, _, _, HP.out.mono (by omega)⟩
      case rest =>
        clear HP hst
        obtain ⟨a0, a1, a2, a3, a4, a5, HP⟩ := hcut
        go_wp2_with fail
        refine (pick_dr 80 HP.out.2.1 (by omega) (by omega) (by omega)).mono ?_
        rintro e w' ⟨y, hy, rfl, hd, hg⟩
        replace HP := Lib.hid (HP.out.keptC hlt (by omega) hd hg)
        clear hd hg
        go_upto_block 1 with fail
        go_cut [51] (fun _ wx => ∃ b0 b1 b2 b3 b4 b5, Hid (InPr w.heap.size gp c w wx (n + 14) b0 b1 b2 b3 b4 b5))
        case first =>
          by_cases h0 : (y : Int) = 0
          · skip
            go_wp2_with fail
            refine (among_dr [0,99,100] (-100000) 100000 HP.out.2.1 _ rfl _ _ rfl (by omega) _).mono ?_
            rintro e w' ⟨y, rfl, hy, hd, hg⟩
            replace HP := Lib.hid (HP.out.keptC hlt (by omega) hd hg)
            clear hd hg
            obtain ⟨q0, q1, q2, q3, q4, q5, q6, q7, q8, q9, q10, q11⟩ := HP.out.cells
            go_wp2_with fail
            go_meet
            exact (HP.out.put hlt hgp (Nat.le_refl _) _ (by omega) y (by omega)).imp fun _ => Exists.imp fun _ => Exists.imp fun _ => Exists.imp fun _ => Exists.imp fun _ => Exists.imp fun _ h => Lib.hid (h.mono (by omega))
          by_cases h1 : (y : Int) = 1
          · skip
            go_wp2_with fail
            refine (among_dr [0,1000] (-100000) 100000 HP.out.2.1 _ rfl _ _ rfl (by omega) _).mono ?_
            rintro e w' ⟨y, rfl, hy, hd, hg⟩
            replace HP := Lib.hid (HP.out.keptC hlt (by omega) hd hg)
            clear hd hg
            obtain ⟨q0, q1, q2, q3, q4, q5, q6, q7, q8, q9, q10, q11⟩ := HP.out.cells
            go_wp2_with fail
            go_meet
            exact (HP.out.put hlt hgp (Nat.le_refl _) _ (by omega) y (by omega)).imp fun _ => Exists.imp fun _ => Exists.imp fun _ => Exists.imp fun _ => Exists.imp fun _ => Exists.imp fun _ h => Lib.hid (h.mono (by omega))
          by_cases h2 : (y : Int) = 2
          · skip
            go_wp2_with fail
            refine (among_dr [0,1000] (-100000) 100000 HP.out.2.1 _ rfl _ _ rfl (by omega) _).mono ?_
            rintro e w' ⟨y, rfl, hy, hd, hg⟩
            replace HP := Lib.hid (HP.out.keptC hlt (by omega) hd hg)
            clear hd hg
            obtain ⟨q0, q1, q2, q3, q4, q5, q6, q7, q8, q9, q10, q11⟩ := HP.out.cells
            go_wp2_with fail
            go_meet
            exact (HP.out.put hlt hgp (Nat.le_refl _) _ (by omega) y (by omega)).imp fun _ => Exists.imp fun _ => Exists.imp fun _ => Exists.imp fun _ => Exists.imp fun _ => Exists.imp fun _ h => Lib.hid (h.mono (by omega))
          by_cases h3 : (y : Int) = 3
          · skip
            go_wp2_with fail
            refine (among_dr [-1,36001] (-100000) 100000 HP.out.2.1 _ rfl _ _ rfl (by omega) _).mono ?_
            rintro e w' ⟨y, rfl, hy, hd, hg⟩
            replace HP := Lib.hid (HP.out.keptC hlt (by omega) hd hg)
            clear hd hg
            obtain ⟨q0, q1, q2, q3, q4, q5, q6, q7, q8, q9, q10, q11⟩ := HP.out.cells
            go_wp2_with fail
            go_meet
            exact (HP.out.put hlt hgp (Nat.le_refl _) _ (by omega) y (by omega)).imp fun _ => Exists.imp fun _ => Exists.imp fun _ => Exists.imp fun _ => Exists.imp fun _ => Exists.imp fun _ h => Lib.hid (h.mono (by omega))
          by_cases h4 : (y : Int) = 4
          · skip
            go_wp2_with fail
            refine (among_dr [-1,5] (-100000) 100000 HP.out.2.1 _ rfl _ _ rfl (by omega) _).mono ?_
            rintro e w' ⟨y, rfl, hy, hd, hg⟩
            replace HP := Lib.hid (HP.out.keptC hlt (by omega) hd hg)
            clear hd hg
            obtain ⟨q0, q1, q2, q3, q4, q5, q6, q7, q8, q9, q10, q11⟩ := HP.out.cells
            go_wp2_with fail
            go_meet
            exact (HP.out.put hlt hgp (Nat.le_refl _) _ (by omega) y (by omega)).imp fun _ => Exists.imp fun _ => Exists.imp fun _ => Exists.imp fun _ => Exists.imp fun _ => Exists.imp fun _ h => Lib.hid (h.mono (by omega))
          by_cases h5 : (y : Int) = 5
          · skip
            go_wp2_with fail
            refine (among_dr [-6,-1,1,6] (-100000) 100000 HP.out.2.1 _ rfl _ _ rfl (by omega) _).mono ?_
            rintro e w' ⟨y, rfl, hy, hd, hg⟩
            replace HP := Lib.hid (HP.out.keptC hlt (by omega) hd hg)
            clear hd hg
            obtain ⟨q0, q1, q2, q3, q4, q5, q6, q7, q8, q9, q10, q11⟩ := HP.out.cells
            go_wp2_with fail
            go_meet
            exact (HP.out.put hlt hgp (Nat.le_refl _) _ (by omega) y (by omega)).imp fun _ => Exists.imp fun _ => Exists.imp fun _ => Exists.imp fun _ => Exists.imp fun _ => Exists.imp fun _ h => Lib.hid (h.mono (by omega))
          go_wp2_with fail
          go_meet
          exact ⟨_, _, _, _, _, _, HP.out.mono (by omega)⟩
        case rest =>
          clear HP
          obtain ⟨a0, a1, a2, a3, a4, a5, HP⟩ := hcut
          obtain ⟨q0, q1, q2, q3, q4, q5, q6, q7, q8, q9, q10, q11⟩ := HP.out.cells
          have hr := HP.out.2.2.2.range
          have HD := Lib.hid HP.out.2.1
          have HF := Lib.hid HP.out.1
          have hz := HP.out.2.2.1.range (k := 0) (by decide)
          have y0 := hz 0 _ rfl
          have y1 := hz 1 _ rfl
          have y2 := hz 2 _ rfl
          have y3 := hz 3 _ rfl
          have y4 := hz 4 _ rfl
          have y5 := hz 5 _ rfl
          have yf := HP.out.2.2.1.frozen
          simp only [Nat.zero_mul, Nat.zero_add, Nat.add_zero] at y0 y1 y2 y3 y4 y5
          clear HP hz
          go_wp2_with ((with_reducible refine at_load_ (w := wc) 25 ?_); refine Prot.loadImpl rfl _ rfl gp 0 rfl ⟨a0, a1, a2, a3, a4, a5⟩ hr ?_)
          refine bodyPost_ret (v := .agg #[.int .i64 a0, .int .i64 a1, .int .i64 a2, .int .i64 a3, .int .i64 a4, .int .i64 a5]) (by simp [results, Try.results92, go_sem, y0, y1, y2, y3, y4, y5]) rfl ⟨⟨a0, a1, a2, a3, a4, a5⟩, rfl, HF.out, ?_⟩
          have hfin : Dr c w ((((((wc.setCell ⟨w.heap.size, 0, none⟩ (.int .i64 a0)).setCell ⟨w.heap.size, 1, none⟩ (.int .i64 a1)).setCell ⟨w.heap.size, 2, none⟩ (.int .i64 a2)).setCell ⟨w.heap.size, 3, none⟩ (.int .i64 a3)).setCell ⟨w.heap.size, 4, none⟩ (.int .i64 a4)).setCell ⟨w.heap.size, 5, none⟩ (.int .i64 a5)) (n + 14) :=
            HD.out.own hlt (grown_trans (grown_trans (grown_trans (grown_trans (grown_trans grown_setCell grown_setCell) grown_setCell) grown_setCell) grown_setCell) grown_setCell) (fun g e => by have := Option.some.inj e; omega)
          exact ⟨hfin.cur.mono (by omega), hfin.grown⟩
end Go.Proofs.Ytabihggfnofcbaa
