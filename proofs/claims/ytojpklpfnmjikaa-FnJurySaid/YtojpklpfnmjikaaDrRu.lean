/- The draw of runs. Condition: the cursor has not come too far. -/
import Derived.Test.YtojpklpfnmjikaaDrCd
import Derived.Test.YtojpklpfnmjikaaCdB
import Derived.Test.YtojpklpfnmjikaaRnM
namespace Go.Proofs.Ytojpklpfnmjikaa
open Go Go.RowKit

/-- One run more, behind steps of the cursor. -/
theorem RunR.pushC {base c : Nat} {w w2 w3 : World} {v v' : Value} {zs : List Run} {z : Run} (h : RunR base w v zs) (hc : c < base) (hbase : base ≤ w.heap.size) (hg0 : w.grownBy w2 (some c)) (hz : Go.Proofs.Ytojpklpfnmjikaa.Row w.heap.size 77 2 w2 z.card.sv (z.card.k.punches.map Punch.lst))
    (hrow : Go.Proofs.Ytojpklpfnmjikaa.Row base 53 7 w3 v' (zs.map Run.lst ++ [z.lst])) (hg : w2.grownBy w3 v.ownBlock) (hat : v'.ownBlock = v.ownBlock ∨ v'.ownBlock = some w2.heap.size) : RunR base w3 v' (zs ++ [z]) := by
  have hvlt : ∀ q, v.ownBlock = some q → q < w.heap.size := fun q hq => (Go.Proofs.Ytojpklpfnmjikaa.Row.lt h.1 q hq).2
  have hne : ∀ q, z.card.sv.ownBlock = some q → w.heap.size ≤ q ∧ q < w2.heap.size := fun q hq => Go.Proofs.Ytojpklpfnmjikaa.Row.lt hz q hq
  refine ⟨by rw [List.map_append]; exact hrow, ?_, ?_⟩
  · intro y hy
    rcases List.mem_append.1 hy with hy | hy
    · obtain ⟨h1, h2⟩ := h.2.1 y hy
      refine ⟨Row.kept (Row.kept h1 hg0 (.inr fun e => by have := (Go.Proofs.Ytojpklpfnmjikaa.Row.lt h1 _ e).1; omega)) hg h2, ?_⟩
      rcases hat with e | e
      · rw [e]; exact h2
      · rw [e]
        refine .inr (fun e2 => ?_)
        have h3 := (Go.Proofs.Ytojpklpfnmjikaa.Row.lt h1 _ e2).2
        have h4 := hg0.size
        omega
    · rw [List.mem_singleton.1 hy]
      have hzn : ∀ u : Option Nat, (∀ q, u = some q → q < w.heap.size ∨ q = w2.heap.size) → z.card.sv.ownBlock = none ∨ z.card.sv.ownBlock ≠ u := fun u hu => by
        cases hz0 : z.card.sv.ownBlock with
        | none => exact .inl rfl
        | some q =>
          refine .inr (fun e => ?_)
          have h3 := hne q hz0
          rcases hu q e.symm with h4 | h4 <;> omega
      refine ⟨Row.mono (Row.kept hz hg (hzn _ fun q hq => .inl (hvlt q hq))) hbase, hzn _ fun q hq => ?_⟩
      rcases hat with e | e
      · rw [e] at hq; exact .inl (hvlt q hq)
      · rw [e] at hq; exact .inr (by simpa using hq.symm)
  · refine List.pairwise_append.2 ⟨h.2.2, by simp, fun y hy q hq => ?_⟩
    rw [List.mem_singleton.1 hq]
    unfold Run.Ap
    cases hy0 : y.card.sv.ownBlock with
    | none => exact .inl rfl
    | some g =>
      refine .inr (fun e => ?_)
      have h1 := (Go.Proofs.Ytojpklpfnmjikaa.Row.lt (h.2.1 y hy).1 g hy0).2
      have h2 := (hne g e.symm).1
      omega
theorem RunR.keptC {base c : Nat} {w w2 : World} {v : Value} {zs : List Run} (h : RunR base w v zs) (hc : c < base) (hg0 : w.grownBy w2 (some c)) : RunR base w2 v zs :=
  ⟨Row.kept h.1 hg0 (.inr fun e => by have := (Go.Proofs.Ytojpklpfnmjikaa.Row.lt h.1 _ e).1; omega), fun z hz => ⟨Row.kept (h.2.1 z hz).1 hg0 (.inr fun e => by have := (Go.Proofs.Ytojpklpfnmjikaa.Row.lt (h.2.1 z hz).1 _ e).1; omega), (h.2.1 z hz).2⟩, h.2.2⟩
/-- A run in a variable (block g) of a drawing in course, begun anew in wr. -/
structure InRn (g c : Nat) (w wr wx : World) (n : Nat) (r : Int) (st ou : Bool) (k0 k1 k2 : Int) (A : Option Addr) (m d : Nat) (ps : List Punch) : Prop where
  dr : Dr c w wx n
  gr : wr.grownBy wx (some c)
  lit : LitAt wx g 53 [.int .i64 r, .bool st, .bool ou, .int .i64 k0, .int .i64 k1, .int .i64 k2, .slice A m d]
  row : Row wr.heap.size 77 2 wx (.slice A m d) (ps.map Punch.lst)
  far : (Value.slice A m d).ownBlock ≠ some g
  apart : c < w.heap.size ∧ w.heap.size ≤ wr.heap.size ∧ wr.heap.size ≤ g
namespace InRn
variable {g c : Nat} {w wr wx wy : World} {n n' : Nat} {r : Int} {st ou : Bool} {k0 k1 k2 : Int} {A : Option Addr} {m d : Nat} {ps : List Punch}
theorem below (h : InRn g c w wr wx n r st ou k0 k1 k2 A m d ps) (hb : Below wx.heap.size wx wy) : InRn g c w wr wy n r st ou k0 k1 k2 A m d ps :=
  ⟨h.dr.below hb, grown_trans h.gr (grown_of hb), h.lit.below hb, h.row.below hb, h.far, h.apart⟩
theorem mono (h : InRn g c w wr wx n r st ou k0 k1 k2 A m d ps) (hn : n ≤ n') : InRn g c w wr wx n' r st ou k0 k1 k2 A m d ps := ⟨h.dr.mono hn, h.gr, h.lit, h.row, h.far, h.apart⟩
theorem keptC (h : InRn g c w wr wx n r st ou k0 k1 k2 A m d ps) (hd : Dr c w wy n') (hg : wx.grownBy wy (some c)) : InRn g c w wr wy n' r st ou k0 k1 k2 A m d ps := by
  have ha := h.apart
  exact ⟨hd, grown_trans h.gr hg, h.lit.keptC (by omega) hg, h.row.keptC (by omega) hg, h.far, h.apart⟩
theorem cells (h : InRn g c w wr wx n r st ou k0 k1 k2 A m d ps) : (wx.cell? ⟨g, 0, none⟩ = some (.int .i64 r) ∧ wx.cell? ⟨g, 1, none⟩ = some (.bool st) ∧ wx.cell? ⟨g, 2, none⟩ = some (.bool ou) ∧ wx.cell? ⟨g, 3, none⟩ = some (.int .i64 k0) ∧ wx.cell? ⟨g, 4, none⟩ = some (.int .i64 k1) ∧ wx.cell? ⟨g, 5, none⟩ = some (.int .i64 k2) ∧ wx.cell? ⟨g, 6, none⟩ = some (.slice A m d)) ∧ ∀ o, wx.frozen? ⟨g, o, none⟩ = false := by
  have r := h.lit.range
  have h0 := r 0 _ rfl
  have h1 := r 1 _ rfl
  have h2 := r 2 _ rfl
  have h3 := r 3 _ rfl
  have h4 := r 4 _ rfl
  have h5 := r 5 _ rfl
  have h6 := r 6 _ rfl
  simp only [Nat.zero_add] at h0 h1 h2 h3 h4 h5 h6
  exact ⟨⟨h0, h1, h2, h3, h4, h5, h6⟩, h.lit.frozen⟩
theorem put2 (h : InRn g c w wr wx n r st ou k0 k1 k2 A m d ps) (y : Bool) : InRn g c w wr (wx.setCell ⟨g, 2, none⟩ (.bool y)) n r st y k0 k1 k2 A m d ps := by
  have ha := h.apart
  exact ⟨h.dr.own ha.1 grown_setCell (fun k e => by have := Option.some.inj e; omega), grown_own h.gr grown_setCell (fun k e => by have := Option.some.inj e; omega), h.lit.put_ 2 (.bool y), Row.putNe_ h.row h.far _, h.far, h.apart⟩
/-- Another card. -/
theorem card (h : InRn g c w wr wx n r st ou k0 k1 k2 A m d ps) {x0 x1 x2 : Int} {B : Option Addr} {q e : Nat} {qs : List Punch} (hr : Row wr.heap.size 77 2 wx (.slice B q e) (qs.map Punch.lst)) (hne : (Value.slice B q e).ownBlock ≠ some g) :
    InRn g c w wr ((((wx.setCell ⟨g, 3, none⟩ (.int .i64 x0)).setCell ⟨g, 4, none⟩ (.int .i64 x1)).setCell ⟨g, 5, none⟩ (.int .i64 x2)).setCell ⟨g, 6, none⟩ (.slice B q e)) n r st ou x0 x1 x2 B q e qs := by
  have ha := h.apart
  have hs : wx.grownBy ((((wx.setCell ⟨g, 3, none⟩ (.int .i64 x0)).setCell ⟨g, 4, none⟩ (.int .i64 x1)).setCell ⟨g, 5, none⟩ (.int .i64 x2)).setCell ⟨g, 6, none⟩ (.slice B q e)) (some g) := grown_trans (grown_trans (grown_trans grown_setCell grown_setCell) grown_setCell) grown_setCell
  exact ⟨h.dr.own ha.1 hs (fun k e => by have := Option.some.inj e; omega), grown_own h.gr hs (fun k e => by have := Option.some.inj e; omega), (((h.lit.put_ 3 (.int .i64 x0)).put_ 4 (.int .i64 x1)).put_ 5 (.int .i64 x2)).put_ 6 (.slice B q e),
    Row.putNe_ (Row.putNe_ (Row.putNe_ (Row.putNe_ hr hne _) hne _) hne _) hne _, hne, h.apart⟩
end InRn
theorem Dr.past {c n n' : Nat} {w0 w w' : World} (h : Dr c w0 w n) (hd : Dr c w w' n') : Dr c w0 w' n' := h.step hd.cur hd.grown
def lenRV : Value → Nat := lenV
theorem run_lenV {base : Nat} {w : World} {v : Value} {zs : List Run} (h : RunR base w v zs) : lenV v = zs.length := by
  obtain ⟨A, d, e, _, _⟩ := h.1.parts
  rw [e]; simp [lenV]
set_option maxRecDepth 100000 in
set_option maxHeartbeats 16000000 in
theorem runs_any (c n bc : Nat) (u : Value) (cs : List Int) (w : World) (h : Cur c w n) (hn : n ≤ 5000) (hrow : Row bc 3 1 w u (cs.map ints)) (hcb : c < bc) (hcl : cs.length ≤ 13) (hcx : ∀ x ∈ cs, 0 ≤ x ∧ x ≤ 100) :
    Calls Try.prog 83 #[.pointer (some ⟨c, 0, none⟩), u] w fun e w' => ∃ (v : Value) (zs : List Run), e = .returned v ∧ RunR w.heap.size w' v zs ∧ zs.length ≤ 11 ∧ (∀ z ∈ zs, 0 ≤ z.runner ∧ z.runner ≤ 100) ∧ Dr c w w' (n + 2500) := by
  have hlt := h.lt
  have HCO := Lib.hid (show ∀ W, w.grownBy W (some c) → Row bc 3 1 W u (cs.map ints) from fun W hg => hrow.keptC hcb hg)
  have HCX := Lib.hid hcx
  have HD := Lib.hid ((Dr.start h).alloc (.cells #[] 53))
  have HR := Lib.hid (show RunR w.heap.size (w.alloc (.cells #[] 53)) (.slice (some ⟨w.heap.size, 0, none⟩) 0 0) [] from RunR.lit rfl (Nat.le_refl _))
  clear h hrow hcx
  go_enter Try.func83, Try.ntmps83
  go_upto_region 2 with fail
  generalize w.alloc (.cells #[] 53) = W0 at *
  go_upto_block 0 with fail
  go_cut [5] (fun v wx => ∃ zs : List Run, zs.length ≤ 8 ∧ Hid (∀ z ∈ zs, 0 ≤ z.runner ∧ z.runner ≤ 100) ∧ Hid (RunR w.heap.size wx v zs) ∧ Hid (Dr c w wx (n + 2000)))
  case first =>
    go_wp2_with fail
    go_loopw [5, 6] (fun v iv wr => ∃ (i : Nat) (zs : List Run), i ≤ 8 ∧ iv = .int .i64 ((i : Int) + 1) ∧ zs.length ≤ i ∧ Hid (∀ z ∈ zs, 0 ≤ z.runner ∧ z.runner ≤ 100) ∧ Hid (RunR w.heap.size wr v zs) ∧ Hid (Dr c w wr (n + 220 * i)))
      (fun _ iv _ => 10 - (intOf iv).toNat)
    case atStart => exact ⟨0, [], by omega, rfl, by simp, fun z hz => absurd hz (by simp), HR.out, HD.out.mono (by omega)⟩
    case round =>
      clear HR HD
      obtain ⟨i, zs, hi8, rfl, hzl, HX, HR, HD⟩ := hrel
      by_cases hi : i < 8
      rotate_left
      · have hii : ¬ (i : Int) + 1 < 9 := by omega
        go_wp2_with fail
        go_meet
        exact ⟨zs, by omega, HX, HR, Lib.hid (HD.out.mono (by omega))⟩
      have hii : (i : Int) + 1 < 9 := by omega
      have hwi : IntKind.i64.wrap ((i : Int) + 1 + 1) = (i : Int) + 1 + 1 := by rw [IntKind.wrap_i64]; omega
      go_wp2_with fail
      refine (one_dr 3 HD.out (by omega) (by omega)).mono ?_
      rintro e w1 ⟨b, rfl, hd, hg⟩
      replace HD := Lib.hid hd
      replace HR := Lib.hid (HR.out.keptC hlt hg)
      clear hd hg
      cases b with
      | true =>
        go_wp2_with fail
        go_roundw
        case rel => exact ⟨i + 1, zs, by omega, by simp, by omega, HX.out, HR.out, HD.out.mono (by omega)⟩
        case measure => simp [intOf]; omega
      | false =>
        have hw3 : IntKind.i64.wrap (3 * ((i : Int) + 1)) = 3 * ((i : Int) + 1) := by rw [IntKind.wrap_i64]; omega
        go_wp2_with fail
        refine (one_dr 7 HD.out (by omega) (by omega)).mono ?_
        rintro e w2 ⟨b, rfl, hd, hg⟩
        replace HD := Lib.hid hd
        replace HR := Lib.hid (HR.out.keptC hlt hg)
        clear hd hg
        have hsw := HD.out.size
        obtain ⟨r, hr⟩ : ∃ r, r = 3 * ((i : Int) + 1) := ⟨_, rfl⟩
        rw [← hr]
        have HI := Lib.hid (show InRn w2.heap.size c w w2 (w2.alloc (.cells #[.int .i64 r, .bool (!b), .bool false, .int .i64 0, .int .i64 0, .int .i64 0, .slice none 0 0] 53)) (n + 220 * i + 4) r (!b) false 0 0 0 none 0 0 [] from
          ⟨(HD.out.alloc _).mono (by omega), grown_of (below_alloc (Below.refl _ _) _), LitAt.new w2 53 [.int .i64 r, .bool (!b), .bool false, .int .i64 0, .int .i64 0, .int .i64 0, .slice none 0 0] _ rfl, Row.nil _ _ _ _, by simp [Value.ownBlock], hlt, hsw, Nat.le_refl _⟩)
        have hrb : 0 ≤ r ∧ r ≤ 100 := by omega
        clear hr hw3
        go_upto_region 7 with fail
        obtain ⟨WI, hWI⟩ : ∃ W, W = w2.alloc (.cells #[.int .i64 r, .bool (!b), .bool false, .int .i64 0, .int .i64 0, .int .i64 0, .slice none 0 0] 53) := ⟨_, rfl⟩
        rw [← hWI] at HI ⊢
        clear hWI HD
        obtain ⟨g, hge⟩ : ∃ g, g = w2.heap.size := ⟨_, rfl⟩
        rw [← hge] at HI ⊢
        clear hge
        obtain ⟨st, hst⟩ : ∃ st, st = !b := ⟨_, rfl⟩
        rw [← hst] at HI ⊢
        clear hst
        obtain ⟨⟨a0, a1, a2, a3, a4, a5, a6⟩, af⟩ := HI.out.cells
        go_upto_if 22 with fail
        clear a0 a1 a2 a3 a4 a5 a6 af
        go_cut [] (fun wx => ∃ (ou : Bool) (k0 k1 k2 : Int) (A : Option Addr) (m d : Nat) (ps : List Punch), Hid (InRn g c w w2 wx (n + 220 * i + 215) r st ou k0 k1 k2 A m d ps))
        case first =>
          cases st with
          | false =>
            go_wp2_with fail
            go_meet
            exact ⟨_, _, _, _, _, _, _, _, Lib.hid (HI.out.mono (by omega))⟩
          | true =>
            go_wp2_with fail
            refine (card_any c _ bc u cs _ HI.out.dr.cur (by omega) (HCO.out _ HI.out.dr.grown) hcb hcl HCX.out).mono ?_
            rintro e w3 ⟨⟨⟨k0, k1, k2, ps⟩, A, m, d⟩, rfl, hrow, hpl, hd⟩
            have hgl := HI.out.lit.lt
            have hgs := HI.out.apart
            have hrow2 : Row w2.heap.size 77 2 w3 (.slice A m d) (ps.map Punch.lst) := Row.mono hrow (by omega)
            have hne2 : (Value.slice A m d).ownBlock ≠ some g := fun e => by have := (hrow.lt g e).1; omega
            replace HI := Lib.hid (HI.out.keptC (HI.out.dr.past hd) hd.grown)
            obtain ⟨⟨a0, a1, a2, a3, a4, a5, a6⟩, af⟩ := HI.out.cells
            have f3 := af 3
            have f4 := af 4
            have f5 := af 5
            have f6 := af 6
            replace HI := Lib.hid (HI.out.card (x0 := k0) (x1 := k1) (x2 := k2) hrow2 hne2)
            clear hrow hd hpl hrow2 hne2 hgl hgs
            go_upto_region 9 with fail
            clear a0 a1 a2 a3 a4 a5 a6 af
            clear f3 f4 f5 f6
            generalize (((w3.setCell ⟨g, 3, none⟩ (.int .i64 k0)).setCell ⟨g, 4, none⟩ (.int .i64 k1)).setCell ⟨g, 5, none⟩ (.int .i64 k2)).setCell ⟨g, 6, none⟩ (.slice A m d) = W3 at HI ⊢
            go_cut [35] (fun bv wx => ∃ q : Bool, bv = .bool q ∧ Hid (InRn g c w w2 wx (n + 220 * i + 206) r true false k0 k1 k2 A m d ps))
            case first =>
              obtain ⟨⟨a0, a1, a2, a3, a4, a5, a6⟩, af⟩ := HI.out.cells
              go_wp2_with fail
              clear a0 a1 a2 a3 a4 a5 a6 af
              refine (l12Card_any ⟨⟨k0, k1, k2, ps⟩, A, m, d⟩ W3 (Sl.of_flat HI.out.row)).mono ?_
              rintro e w4 ⟨rfl, hb⟩
              replace HI := Lib.hid (HI.out.below hb)
              clear hb
              generalize cardOk _ = okb
              cases okb with
              | true =>
                go_wp2_with fail
                go_meet
                exact ⟨_, rfl, Lib.hid (HI.out.mono (by omega))⟩
              | false =>
                go_wp2_with fail
                refine (one_dr 12 HI.out.dr (by omega) (by omega)).mono ?_
                rintro e w5 ⟨b, rfl, hd, hg⟩
                replace HI := Lib.hid (HI.out.keptC hd hg)
                clear hd hg
                go_wp2_with fail
                go_meet
                exact ⟨_, rfl, Lib.hid (HI.out.mono (by omega))⟩
            case rest =>
              clear HI
              obtain ⟨q, rfl, HI⟩ := hcut
              go_upto_if 35 with fail
              go_cut [] (fun wx => ∃ (k0 k1 k2 : Int) (A : Option Addr) (m d : Nat) (ps : List Punch), Hid (InRn g c w w2 wx (n + 220 * i + 208) r true false k0 k1 k2 A m d ps))
              case first =>
                cases q with
                | false =>
                  go_wp2_with fail
                  go_meet
                  exact ⟨_, _, _, _, _, _, _, Lib.hid (HI.out.mono (by omega))⟩
                | true =>
                  go_wp2_with fail
                  refine (among_dr [-1, 500] (-1) 500 HI.out.dr _ rfl _ _ rfl (by omega) _).mono ?_
                  rintro e w5 ⟨x, rfl, hx, hd, hg⟩
                  replace HI := Lib.hid (HI.out.keptC hd hg)
                  clear hd hg
                  have hgl := HI.out.lit.lt
                  have hgs := HI.out.apart
                  obtain ⟨⟨a0, a1, a2, a3, a4, a5, a6⟩, af⟩ := HI.out.cells
                  have f3 := af 3
                  have f4 := af 4
                  have f5 := af 5
                  have f6 := af 6
                  have hgn : g ≠ w5.heap.size := by omega
                  have hgn2 : ¬ w5.heap.size = g := by omega
                  replace HI := Lib.hid (HI.out.below (below_alloc (Below.refl _ _) (.cells #[] 77)))
                  obtain ⟨⟨-, -, -, b3, b4, b5, b6⟩, bf⟩ := HI.out.cells
                  have bf3 := bf 3
                  have bf4 := bf 4
                  have bf5 := bf 5
                  have bf6 := bf 6
                  replace HI := Lib.hid (HI.out.card (x0 := 5) (x1 := 0) (x2 := x) (qs := []) (Row.lit_nil w5 77 2 (base := w2.heap.size) (by omega)) (by intro e; have e2 : w5.heap.size = g := Option.some.inj e; omega))
                  go_wp2_with fail
                  go_meet
                  have HJ := HI.out.mono (n' := n + 220 * i + 208) (by omega)
                  rw [World.setCell_alloc_past _ g 3 _ hgl, World.setCell_alloc_past _ g 4 _ (by simpa using hgl), World.setCell_alloc_past _ g 5 _ (by simpa using hgl), World.setCell_alloc_past _ g 6 _ (by simpa using hgl)] at HJ
                  exact ⟨_, _, _, _, _, _, _, Lib.hid HJ⟩
              case rest =>
                clear HI
                obtain ⟨k0, k1, k2, A, m, d, ps, HI⟩ := hcut
                go_wp2_with fail
                refine (one_dr 10 HI.out.dr (by omega) (by omega)).mono ?_
                rintro e w5 ⟨b, rfl, hd, hg⟩
                replace HI := Lib.hid (HI.out.keptC hd hg)
                clear hd hg
                obtain ⟨⟨a0, a1, a2, a3, a4, a5, a6⟩, af⟩ := HI.out.cells
                have f2 := af 2
                go_wp2_with fail
                go_meet
                exact ⟨_, _, _, _, _, _, _, _, Lib.hid ((HI.out.put2 b).mono (by omega))⟩
        case rest =>
          clear HI
          obtain ⟨ou, k0, k1, k2, A, m, d, ps, HI⟩ := hcut
          obtain ⟨⟨a0, a1, a2, a3, a4, a5, a6⟩, af⟩ := HI.out.cells
          have HGX := Lib.hid HI.out.gr
          have HDX := Lib.hid HI.out.dr
          have HPX := Lib.hid HI.out.row
          have HRA := Lib.hid (HR.out.1.keptC hlt HGX.out)
          have HRL := Lib.hid (HRA.out.alloc (.cells #[.int .i64 r, .bool st, .bool ou, .int .i64 k0, .int .i64 k1, .int .i64 k2, .slice A m d] 53))
          have HSR := Lib.hid (show Src (wc.alloc (.cells #[.int .i64 r, .bool st, .bool ou, .int .i64 k0, .int .i64 k1, .int .i64 k2, .slice A m d] 53)) 7 (some ⟨wc.heap.size, 0, none⟩) 1 [Run.lst (⟨r, st, ou, ⟨⟨k0, k1, k2, ps⟩, A, m, d⟩⟩ : Run)] from Src.lit wc 53 (Run.lst (⟨r, st, ou, ⟨⟨k0, k1, k2, ps⟩, A, m, d⟩⟩ : Run)) wc.heap.size (by simp) rfl (Run.one (⟨r, st, ou, ⟨⟨k0, k1, k2, ps⟩, A, m, d⟩⟩ : Run)))
          have HLL := Lib.hid (show (zs.map Run.lst).length + 1 ≤ 2147483648 by simp; omega)
          have hsw2 : w.heap.size ≤ (wc.alloc (.cells #[.int .i64 r, .bool st, .bool ou, .int .i64 k0, .int .i64 k1, .int .i64 k2, .slice A m d] 53)).heap.size := by have := HDX.out.size; simp; omega
          go_wp2_with (at_builtin; refine tyRun.append rfl _ _ rfl w.heap.size u5 _ rfl HRL.out _ 1 1 [Run.lst (⟨r, st, ou, ⟨⟨k0, k1, k2, ps⟩, A, m, d⟩⟩ : Run)] rfl HSR.out HLL.out hsw2 ?_; intro o7 w7 hrow7 hg7 hat7)
          have HD7 := Lib.hid ((HDX.out.alloc (.cells #[.int .i64 r, .bool st, .bool ou, .int .i64 k0, .int .i64 k1, .int .i64 k2, .slice A m d] 53)).own hlt hg7 (fun g hg => (HRL.out.lt g hg).1))
          have HR7 := Lib.hid (RunR.pushC (z := (⟨r, st, ou, ⟨⟨k0, k1, k2, ps⟩, A, m, d⟩⟩ : Run)) HR.out hlt hsw (grown_trans HGX.out (grown_of (below_alloc (Below.refl _ _) (.cells #[.int .i64 r, .bool st, .bool ou, .int .i64 k0, .int .i64 k1, .int .i64 k2, .slice A m d] 53)))) (HPX.out.alloc (.cells #[.int .i64 r, .bool st, .bool ou, .int .i64 k0, .int .i64 k1, .int .i64 k2, .slice A m d] 53)) (by simpa using hrow7) hg7 hat7)
          have HX7 := Lib.hid (show ∀ z ∈ zs ++ [(⟨r, st, ou, ⟨⟨k0, k1, k2, ps⟩, A, m, d⟩⟩ : Run)], 0 ≤ z.runner ∧ z.runner ≤ 100 from fun z hz => by
            rcases List.mem_append.1 hz with hz | hz
            · exact HX.out z hz
            · rw [List.mem_singleton.1 hz]; simp only; omega)
          clear hrow7 hg7 hat7 HRA HRL HSR HLL hsw2
          go_roundw
          case rel => exact ⟨i + 1, zs ++ [(⟨r, st, ou, ⟨⟨k0, k1, k2, ps⟩, A, m, d⟩⟩ : Run)], by omega, by simp, by simp; omega, HX7.out, HR7.out, HD7.out.mono (by omega)⟩
          case measure => simp [intOf]; omega
  case rest =>
    clear HR HD
    obtain ⟨zs, hzl, HX, HR, HD⟩ := hcut
    go_wp2_with fail
    refine (pick_dr 24 HD.out (by omega) (by omega) (by omega)).mono ?_
    rintro e w1 ⟨y, hy, rfl, hd, hg⟩
    replace HD := Lib.hid hd
    replace HR := Lib.hid (HR.out.keptC hlt hg)
    clear hd hg
    go_upto_block 2 with fail
    go_cut [5] (fun v wx => ∃ zs : List Run, zs.length ≤ 11 ∧ Hid (∀ z ∈ zs, 0 ≤ z.runner ∧ z.runner ≤ 100) ∧ Hid (RunR w.heap.size wx v zs) ∧ Hid (Dr c w wx (n + 2100)))
    case first =>
      cases e0 : ((y : Int) == 0) with
      | true =>
        go_wp2_with fail
        refine (among_dr [0, 1, 99, 100] 0 100 HD.out _ rfl _ _ rfl (by omega) _).mono ?_
        rintro e w2 ⟨x, rfl, hx, hd, hg⟩
        replace HD := Lib.hid hd
        replace HR := Lib.hid (HR.out.keptC hlt hg)
        clear hd hg
        go_wp2_with fail
        refine (one_dr 2 HD.out (by omega) (by omega)).mono ?_
        rintro e w3 ⟨b, rfl, hd, hg⟩
        replace HD := Lib.hid hd
        replace HR := Lib.hid (HR.out.keptC hlt hg)
        clear hd hg
        have hsw := HD.out.size
        have HGX := Lib.hid (World.grownBy.refl w3 (some c))
        have HDX := HD
        have HPX := Lib.hid (show Row w3.heap.size 77 2 w3 (.slice none 0 0) (([] : List Punch).map Punch.lst) from Row.nil _ _ _ _)
        have HRA := Lib.hid (HR.out.1.keptC hlt HGX.out)
        have HRL := Lib.hid (HRA.out.alloc (.cells #[.int .i64 x, .bool false, .bool b, .int .i64 0, .int .i64 0, .int .i64 0, .slice none 0 0] 53))
        have HSR := Lib.hid (show Src (w3.alloc (.cells #[.int .i64 x, .bool false, .bool b, .int .i64 0, .int .i64 0, .int .i64 0, .slice none 0 0] 53)) 7 (some ⟨w3.heap.size, 0, none⟩) 1 [Run.lst (⟨x, false, b, ⟨⟨0, 0, 0, []⟩, none, 0, 0⟩⟩ : Run)] from Src.lit w3 53 (Run.lst (⟨x, false, b, ⟨⟨0, 0, 0, []⟩, none, 0, 0⟩⟩ : Run)) w3.heap.size (by simp) rfl (Run.one (⟨x, false, b, ⟨⟨0, 0, 0, []⟩, none, 0, 0⟩⟩ : Run)))
        have HLL := Lib.hid (show (zs.map Run.lst).length + 1 ≤ 2147483648 by simp; omega)
        have hsw2 : w.heap.size ≤ (w3.alloc (.cells #[.int .i64 x, .bool false, .bool b, .int .i64 0, .int .i64 0, .int .i64 0, .slice none 0 0] 53)).heap.size := by have := HDX.out.size; simp; omega
        go_wp2_with (at_builtin; refine tyRun.append rfl _ _ rfl w.heap.size u5 _ rfl HRL.out _ 1 1 [Run.lst (⟨x, false, b, ⟨⟨0, 0, 0, []⟩, none, 0, 0⟩⟩ : Run)] rfl HSR.out HLL.out hsw2 ?_; intro o7 w7 hrow7 hg7 hat7)
        have HD7 := Lib.hid ((HDX.out.alloc (.cells #[.int .i64 x, .bool false, .bool b, .int .i64 0, .int .i64 0, .int .i64 0, .slice none 0 0] 53)).own hlt hg7 (fun g hg => (HRL.out.lt g hg).1))
        have HR7 := Lib.hid (RunR.pushC (z := (⟨x, false, b, ⟨⟨0, 0, 0, []⟩, none, 0, 0⟩⟩ : Run)) HR.out hlt hsw (grown_trans HGX.out (grown_of (below_alloc (Below.refl _ _) (.cells #[.int .i64 x, .bool false, .bool b, .int .i64 0, .int .i64 0, .int .i64 0, .slice none 0 0] 53)))) (HPX.out.alloc (.cells #[.int .i64 x, .bool false, .bool b, .int .i64 0, .int .i64 0, .int .i64 0, .slice none 0 0] 53)) (by simpa using hrow7) hg7 hat7)
        have HX7 := Lib.hid (show ∀ z ∈ zs ++ [(⟨x, false, b, ⟨⟨0, 0, 0, []⟩, none, 0, 0⟩⟩ : Run)], 0 ≤ z.runner ∧ z.runner ≤ 100 from fun z hz => by
          rcases List.mem_append.1 hz with hz | hz
          · exact HX.out z hz
          · rw [List.mem_singleton.1 hz]; simp only; omega)
        clear hrow7 hg7 hat7 HRA HRL HSR HLL hsw2
        go_meet
        exact ⟨zs ++ [(⟨x, false, b, ⟨⟨0, 0, 0, []⟩, none, 0, 0⟩⟩ : Run)], by simp; omega, HX7, HR7, Lib.hid (HD7.out.mono (by omega))⟩
      | false =>
        cases e1 : ((y : Int) == 1) with
        | false =>
          go_wp2_with fail
          go_meet
          exact ⟨zs, by omega, HX, HR, Lib.hid (HD.out.mono (by omega))⟩
        | true =>
          go_wp2_with fail
          go_loopw [5] (fun v wr => ∃ zs : List Run, zs.length ≤ 11 ∧ lenV v = zs.length ∧ Hid (∀ z ∈ zs, 0 ≤ z.runner ∧ z.runner ≤ 100) ∧ Hid (RunR w.heap.size wr v zs) ∧ Hid (Dr c w wr (n + 2010 + 2 * zs.length)))
            (fun v _ => 40 - lenV v)
          case atStart => exact ⟨zs, by omega, run_lenV HR.out, HX.out, HR.out, HD.out.mono (by omega)⟩
          case round =>
            clear HD HR HX hzl
            obtain ⟨zs, hzl, hlv, HX, HR, HD⟩ := hrel
            obtain ⟨A2, d2, rfl, hd2, hd3⟩ := HR.out.1.parts
            simp only [List.length_map] at HR hd2 ⊢
            go_wp2_with fail
            refine (pick_dr 2 HD.out (by omega) (by omega) (by omega)).mono ?_
            rintro e w2 ⟨x, hx, rfl, hd, hg⟩
            replace HD := Lib.hid hd
            replace HR := Lib.hid (HR.out.keptC hlt hg)
            clear hd hg
            have hwr : IntKind.i64.wrap ((10 : Int) + (x : Int)) = 10 + (x : Int) := by rw [IntKind.wrap_i64]; omega
            have hwl : IntKind.i64.wrap ((40 : Int) + (zs.length : Int)) = 40 + (zs.length : Int) := by rw [IntKind.wrap_i64]; omega
            by_cases hly : zs.length < 10 + x
            · have hly' : (zs.length : Int) < 10 + (x : Int) := by omega
              have hsw := HD.out.size
              have HGX := Lib.hid (World.grownBy.refl w2 (some c))
              have HDX := HD
              have HPX := Lib.hid (show Row w2.heap.size 77 2 w2 (.slice none 0 0) (([] : List Punch).map Punch.lst) from Row.nil _ _ _ _)
              have HRA := Lib.hid (HR.out.1.keptC hlt HGX.out)
              have HRL := Lib.hid (HRA.out.alloc (.cells #[.int .i64 (40 + (zs.length : Int)), .bool false, .bool false, .int .i64 0, .int .i64 0, .int .i64 0, .slice none 0 0] 53))
              have HSR := Lib.hid (show Src (w2.alloc (.cells #[.int .i64 (40 + (zs.length : Int)), .bool false, .bool false, .int .i64 0, .int .i64 0, .int .i64 0, .slice none 0 0] 53)) 7 (some ⟨w2.heap.size, 0, none⟩) 1 [Run.lst (⟨40 + (zs.length : Int), false, false, ⟨⟨0, 0, 0, []⟩, none, 0, 0⟩⟩ : Run)] from Src.lit w2 53 (Run.lst (⟨40 + (zs.length : Int), false, false, ⟨⟨0, 0, 0, []⟩, none, 0, 0⟩⟩ : Run)) w2.heap.size (by simp) rfl (Run.one (⟨40 + (zs.length : Int), false, false, ⟨⟨0, 0, 0, []⟩, none, 0, 0⟩⟩ : Run)))
              have HLL := Lib.hid (show (zs.map Run.lst).length + 1 ≤ 2147483648 by simp; omega)
              have hsw2 : w.heap.size ≤ (w2.alloc (.cells #[.int .i64 (40 + (zs.length : Int)), .bool false, .bool false, .int .i64 0, .int .i64 0, .int .i64 0, .slice none 0 0] 53)).heap.size := by have := HDX.out.size; simp; omega
              go_wp2_with (at_builtin; refine tyRun.append rfl _ _ rfl w.heap.size (.slice A2 zs.length d2) _ rfl HRL.out _ 1 1 [Run.lst (⟨40 + (zs.length : Int), false, false, ⟨⟨0, 0, 0, []⟩, none, 0, 0⟩⟩ : Run)] rfl HSR.out HLL.out hsw2 ?_; intro o7 w7 hrow7 hg7 hat7)
              have HD7 := Lib.hid ((HDX.out.alloc (.cells #[.int .i64 (40 + (zs.length : Int)), .bool false, .bool false, .int .i64 0, .int .i64 0, .int .i64 0, .slice none 0 0] 53)).own hlt hg7 (fun g hg => (HRL.out.lt g hg).1))
              have HR7 := Lib.hid (RunR.pushC (z := (⟨40 + (zs.length : Int), false, false, ⟨⟨0, 0, 0, []⟩, none, 0, 0⟩⟩ : Run)) HR.out hlt hsw (grown_trans HGX.out (grown_of (below_alloc (Below.refl _ _) (.cells #[.int .i64 (40 + (zs.length : Int)), .bool false, .bool false, .int .i64 0, .int .i64 0, .int .i64 0, .slice none 0 0] 53)))) (HPX.out.alloc (.cells #[.int .i64 (40 + (zs.length : Int)), .bool false, .bool false, .int .i64 0, .int .i64 0, .int .i64 0, .slice none 0 0] 53)) (by simpa using hrow7) hg7 hat7)
              have HX7 := Lib.hid (show ∀ z ∈ zs ++ [(⟨40 + (zs.length : Int), false, false, ⟨⟨0, 0, 0, []⟩, none, 0, 0⟩⟩ : Run)], 0 ≤ z.runner ∧ z.runner ≤ 100 from fun z hz => by
                rcases List.mem_append.1 hz with hz | hz
                · exact HX.out z hz
                · rw [List.mem_singleton.1 hz]; simp only; omega)
              clear hrow7 hg7 hat7 HRA HRL HSR HLL hsw2
              have hl7 : lenV o7 = zs.length + 1 := by rw [run_lenV HR7.out]; simp
              go_roundw
              case rel => exact ⟨zs ++ [(⟨40 + (zs.length : Int), false, false, ⟨⟨0, 0, 0, []⟩, none, 0, 0⟩⟩ : Run)], by simp; omega, by simp [hl7], HX7.out, HR7.out, HD7.out.mono (by simp; omega)⟩
              case measure => rw [hl7]; simp only [lenV]; omega
            · have hly' : ¬ (zs.length : Int) < 10 + (x : Int) := by omega
              go_wp2_with fail
              go_meet
              exact ⟨zs, hzl, HX, HR, Lib.hid (HD.out.mono (by omega))⟩
    case rest =>
      clear HD HR HX hzl
      obtain ⟨zs, hzl, HX, HR, HD⟩ := hcut
      go_wp2_with fail
      go_ret
      exact ⟨u5, zs, rfl, HR.out, hzl, HX.out, HD.out.mono (by omega)⟩
end Go.Proofs.Ytojpklpfnmjikaa
