/- The draw of a card. Condition: the cursor has not come too far. -/
import Derived.Test.YtojpklpfnmjikaaDrCo
import Derived.Test.YtojpklpfnmjikaaCdC
import Derived.Deep.RegionLaw
namespace Go.Proofs.Ytojpklpfnmjikaa
open Go Go.RowKit

theorem LitAt.setNe_ {e : TypeId} {w : World} {g q o : Nat} {cs : List Value} (h : LitAt w g e cs) (hne : g ≠ q) (u : Value) : LitAt (w.setCell ⟨q, o, none⟩ u) g e cs := h.grown grown_setCell (fun e => hne (Option.some.inj e).symm)
theorem grownC_alloc {w w1 : World} {c : Option Nat} (h : w.grownBy w1 c) (o : Obj) : w.grownBy (w1.alloc o) c := grown_trans h (grown_of (below_alloc (Below.refl _ _) o))
theorem grownC_drew {w w1 : World} {c : Option Nat} (h : w.grownBy w1 c) : w.grownBy w1.drew c := grown_trans h (grown_of (Below.refl _ _).drew)
abbrev zCard : List Value := [.int .i64 0, .int .i64 0, .int .i64 0, .slice none 0 0]
/-- A card in a variable (block g) of a drawing in course; the result's variable (block gz) is untouched. -/
structure InCd (gz g base c : Nat) (w wx : World) (n : Nat) (k0 k1 k2 : Int) (A : Option Addr) (m d : Nat) (ps : List Punch) : Prop where
  dr : Dr c w wx n
  zero : LitAt wx gz 51 zCard
  lit : LitAt wx g 51 [.int .i64 k0, .int .i64 k1, .int .i64 k2, .slice A m d]
  row : Row base 77 2 wx (.slice A m d) (ps.map Punch.lst)
  far : (Value.slice A m d).ownBlock ≠ some g
  apart : gz < base ∧ base ≤ g ∧ c < gz ∧ gz = w.heap.size ∧ c < w.heap.size
namespace InCd
variable {gz g base c : Nat} {w wx wy : World} {n n' : Nat} {k0 k1 k2 : Int} {A : Option Addr} {m d : Nat} {ps : List Punch}
theorem below (h : InCd gz g base c w wx n k0 k1 k2 A m d ps) (hb : Below wx.heap.size wx wy) : InCd gz g base c w wy n k0 k1 k2 A m d ps :=
  ⟨h.dr.below hb, h.zero.below hb, h.lit.below hb, h.row.below hb, h.far, h.apart⟩
theorem mono (h : InCd gz g base c w wx n k0 k1 k2 A m d ps) (hn : n ≤ n') : InCd gz g base c w wx n' k0 k1 k2 A m d ps := ⟨h.dr.mono hn, h.zero, h.lit, h.row, h.far, h.apart⟩
theorem keptC (h : InCd gz g base c w wx n k0 k1 k2 A m d ps) (hd : Dr c w wy n') (hg : wx.grownBy wy (some c)) : InCd gz g base c w wy n' k0 k1 k2 A m d ps := by
  have ha := h.apart
  exact ⟨hd, h.zero.keptC (by omega) hg, h.lit.keptC (by omega) hg, h.row.keptC (by omega) hg, h.far, h.apart⟩
theorem len (h : InCd gz g base c w wx n k0 k1 k2 A m d ps) : m = ps.length := by
  obtain ⟨A', d', e, _, _⟩ := h.row.parts
  simp only [Value.slice.injEq, List.length_map] at e
  exact e.2.1
theorem cells (h : InCd gz g base c w wx n k0 k1 k2 A m d ps) : wx.cell? ⟨g, 0, none⟩ = some (.int .i64 k0) ∧ wx.cell? ⟨g, 1, none⟩ = some (.int .i64 k1) ∧ wx.cell? ⟨g, 2, none⟩ = some (.int .i64 k2) ∧ wx.cell? ⟨g, 3, none⟩ = some (.slice A m d) ∧ (wx.frozen? ⟨g, 0, none⟩ = false ∧ wx.frozen? ⟨g, 1, none⟩ = false ∧ wx.frozen? ⟨g, 2, none⟩ = false ∧ wx.frozen? ⟨g, 3, none⟩ = false) := by
  have r := h.lit.range
  have h0 := r 0 _ rfl
  have h1 := r 1 _ rfl
  have h2 := r 2 _ rfl
  have h3 := r 3 _ rfl
  simp only [Nat.zero_add] at h0 h1 h2 h3
  exact ⟨h0, h1, h2, h3, h.lit.frozen _, h.lit.frozen _, h.lit.frozen _, h.lit.frozen _⟩
theorem put0 (h : InCd gz g base c w wx n k0 k1 k2 A m d ps) (y : Int) : InCd gz g base c w (wx.setCell ⟨g, 0, none⟩ (.int .i64 y)) n y k1 k2 A m d ps := by
  have ha := h.apart
  exact ⟨h.dr.own ha.2.2.2.2 grown_setCell (fun k e => by have := Option.some.inj e; omega), h.zero.setNe_ (by omega) _, h.lit.put_ 0 (.int .i64 y), Row.putNe_ h.row h.far _, h.far, h.apart⟩
theorem put1 (h : InCd gz g base c w wx n k0 k1 k2 A m d ps) (y : Int) : InCd gz g base c w (wx.setCell ⟨g, 1, none⟩ (.int .i64 y)) n k0 y k2 A m d ps := by
  have ha := h.apart
  exact ⟨h.dr.own ha.2.2.2.2 grown_setCell (fun k e => by have := Option.some.inj e; omega), h.zero.setNe_ (by omega) _, h.lit.put_ 1 (.int .i64 y), Row.putNe_ h.row h.far _, h.far, h.apart⟩
theorem put2 (h : InCd gz g base c w wx n k0 k1 k2 A m d ps) (y : Int) : InCd gz g base c w (wx.setCell ⟨g, 2, none⟩ (.int .i64 y)) n k0 k1 y A m d ps := by
  have ha := h.apart
  exact ⟨h.dr.own ha.2.2.2.2 grown_setCell (fun k e => by have := Option.some.inj e; omega), h.zero.setNe_ (by omega) _, h.lit.put_ 2 (.int .i64 y), Row.putNe_ h.row h.far _, h.far, h.apart⟩
/-- A punch appended, and stored. -/
theorem push (h : InCd gz g base c w wx n k0 k1 k2 A m d ps) {q : Punch} {A' : Option Addr} {m' d' : Nat} (hr : Row base 77 2 wy (.slice A' m' d') (ps.map Punch.lst ++ [q.lst])) (hg : wx.grownBy wy (Value.slice A m d).ownBlock) (hat : (Value.slice A' m' d').ownBlock = (Value.slice A m d).ownBlock ∨ (Value.slice A' m' d').ownBlock = some wx.heap.size) :
    InCd gz g base c w (wy.setCell ⟨g, 3, none⟩ (.slice A' m' d')) n k0 k1 k2 A' m' d' (ps ++ [q]) := by
  have ha := h.apart
  have hl := h.lit.lt
  have hne : (Value.slice A' m' d').ownBlock ≠ some g := by
    rcases hat with e | e
    · rw [e]; exact h.far
    · rw [e]; intro e2; have := Option.some.inj e2; omega
  have hbb : ∀ b, (Value.slice A m d).ownBlock = some b → base ≤ b := fun b hb => (h.row.lt b hb).1
  have hd := h.dr.own ha.2.2.2.2 hg (fun k e => by have := hbb k e; omega)
  have hz := h.zero.grown hg (fun e => by have := hbb gz e; omega)
  have hll := h.lit.grown hg h.far
  refine ⟨hd.own ha.2.2.2.2 grown_setCell (fun k e => by have := Option.some.inj e; omega), hz.setNe_ (by omega) _, hll.put_ 3 (.slice A' m' d'), Row.putNe_ (by simpa using hr) hne _, hne, h.apart⟩
end InCd
set_option maxRecDepth 100000 in
set_option maxHeartbeats 16000000 in
theorem card_any (c n bc : Nat) (u : Value) (cs : List Int) (w : World) (h : Cur c w n) (hn : n ≤ 10000) (hrow : Row bc 3 1 w u (cs.map ints)) (hcb : c < bc) (hcl : cs.length ≤ 13) (hcx : ∀ x ∈ cs, 0 ≤ x ∧ x ≤ 100) :
    Calls Try.prog 114 #[.pointer (some ⟨c, 0, none⟩), u] w fun e w' => ∃ p : Card, e = .returned (.agg #[.int .i64 p.k.number, .int .i64 p.k.start, .int .i64 p.k.finish, .slice p.a p.n p.c]) ∧ Row w.heap.size 77 2 w' p.sv (p.k.punches.map Punch.lst) ∧ p.k.punches.length ≤ 12 ∧ Dr c w w' (n + 200) := by
  have hlt := h.lt
  obtain ⟨B, e, rfl, he1, he2⟩ := hrow.parts
  simp only [List.length_map] at hrow he1 ⊢
  have HCO := Lib.hid (show ∀ W, w.grownBy W (some c) → Row bc 3 1 W (.slice B cs.length e) (cs.map ints) from fun W hg => hrow.keptC hcb hg)
  have HCX := Lib.hid hcx
  have HZ := Lib.hid (show LitAt (w.alloc (.cells zCard.toArray 51)) w.heap.size 51 zCard from LitAt.new _ _ _ _ rfl)
  have HD := Lib.hid ((Dr.start h).alloc (.cells zCard.toArray 51))
  clear h hrow hcx
  go_enter Try.func114, Try.ntmps114
  go_wp2_with fail
  refine (among_dr [1, 17, 9999] 1 9999 HD.out _ rfl _ _ rfl (by omega) _).mono ?_
  rintro e w1 ⟨x0, rfl, hx0, hd, hg⟩
  replace HD := Lib.hid hd
  replace HZ := Lib.hid (HZ.out.keptC hlt hg)
  clear hd hg
  go_wp2_with fail
  refine (among_dr [0, 600, 3600] 0 3600 HD.out _ rfl _ _ rfl (by omega) _).mono ?_
  rintro e w2 ⟨x1, rfl, hx1, hd, hg⟩
  replace HD := Lib.hid hd
  replace HZ := Lib.hid (HZ.out.keptC hlt hg)
  clear hd hg
  have hz2 := HZ.out.lt
  have HI := Lib.hid (show InCd w.heap.size (w2.heap.size + 1) (w.heap.size + 1) c w ((w2.alloc (.cells #[] 77)).alloc (.cells #[.int .i64 x0, .int .i64 x1, .int .i64 0, .slice (some ⟨w2.heap.size, 0, none⟩) 0 0] 51)) (n + 4) x0 x1 0 (some ⟨w2.heap.size, 0, none⟩) 0 0 [] from
    ⟨((HD.out.alloc _).alloc _).mono (by omega), (HZ.out.alloc _).alloc _, LitAt.new _ _ [.int .i64 x0, .int .i64 x1, .int .i64 0, .slice (some ⟨w2.heap.size, 0, none⟩) 0 0] _ (by simp), (Row.lit_nil w2 77 2 (by omega)).alloc _, by simp [Value.ownBlock], by omega, by omega, hlt, rfl, hlt⟩)
  clear HD HZ hx0
  go_upto_region 2 with fail
  generalize (w2.alloc (.cells #[] 77)).alloc (.cells #[.int .i64 x0, .int .i64 x1, .int .i64 0, .slice (some ⟨w2.heap.size, 0, none⟩) 0 0] 51) = W0 at HI ⊢
  generalize w2.heap.size + 1 = g at HI ⊢
  obtain ⟨a0, a1, a2, a3, f0, f1, f2, f3⟩ := HI.out.cells
  go_upto_block 0 with fail
  clear a0 a1 a2 a3 f0 f1 f2 f3
  go_cut [6] (fun av wx => ∃ (at_ : Int) (A : Option Addr) (d : Nat) (ps : List Punch), av = .int .i64 at_ ∧ (0 ≤ at_ ∧ at_ ≤ 10000) ∧ ps.length ≤ 12 ∧ Hid (InCd w.heap.size g (w.heap.size + 1) c w wx (n + 100) x0 x1 0 A ps.length d ps))
  case first =>
    go_wp2_with fail
    go_loopw [6, 7] (fun av iv wr => ∃ (i : Nat) (at_ : Int) (A : Option Addr) (d : Nat) (ps : List Punch), i ≤ cs.length ∧ iv = .int .i64 i ∧ av = .int .i64 at_ ∧ (0 ≤ at_ ∧ at_ ≤ 3600 + 260 * (i : Int)) ∧ ps.length ≤ 12 ∧ Hid (InCd w.heap.size g (w.heap.size + 1) c w wr (n + 4 + 6 * i) x0 x1 0 A ps.length d ps))
      (fun _ iv _ => cs.length - (intOf iv).toNat)
    case atStart => exact ⟨0, x1, _, _, [], Nat.zero_le _, rfl, rfl, by omega, by simp, HI.out.mono (by omega)⟩
    case round =>
      clear HI
      obtain ⟨i, at_, A, d, ps, hic, rfl, rfl, hat, hpl, HI⟩ := hrel
      obtain ⟨a0, a1, a2, a3, f0, f1, f2, f3⟩ := HI.out.cells
      by_cases hi : i < cs.length
      rotate_left
      · have hii : ¬ (i : Int) < (cs.length : Int) := by omega
        go_wp2_with fail
        go_meet
        exact ⟨at_, A, d, ps, rfl, by omega, hpl, Lib.hid (HI.out.mono (by omega))⟩
      have hii : (i : Int) < (cs.length : Int) := by omega
      have hi0 : (0 : Int) ≤ (i : Int) := by omega
      by_cases hp : ps.length < 12
      rotate_left
      · have hpp : ¬ (ps.length : Int) < 12 := by omega
        go_wp2_with fail
        go_meet
        exact ⟨at_, A, d, ps, rfl, by omega, hpl, Lib.hid (HI.out.mono (by omega))⟩
      have hpp : (ps.length : Int) < 12 := by omega
      go_wp2_with fail
      clear a0 a1 a2 a3 f0 f1 f2 f3
      refine (among_dr [0, 30, 60, 100, 250] 0 250 HI.out.dr _ rfl _ _ rfl (by omega) _).mono ?_
      rintro e w3 ⟨t1, rfl, ht1, hd, hg⟩
      replace HI := Lib.hid (HI.out.keptC hd hg)
      clear hd hg
      have hwr : IntKind.i64.wrap (at_ + t1) = at_ + t1 := by rw [IntKind.wrap_i64]; omega
      go_wp2_with fail
      refine (pick_dr 8 HI.out.dr (by omega) (by omega) (by omega)).mono ?_
      rintro e w4 ⟨y, hy, rfl, hd, hg⟩
      replace HI := Lib.hid (HI.out.keptC hd hg)
      clear hd hg
      obtain ⟨at1, hat1⟩ : ∃ a, a = at_ + t1 := ⟨_, rfl⟩
      have hb1 : 0 ≤ at1 ∧ at1 ≤ 3850 + 260 * (i : Int) := by omega
      rw [← hat1]
      clear hat1 hwr ht1 hat
      cases e0 : ((y : Int) == 0) with
      | true =>
        go_wp2_with fail
        go_roundw
        case rel => exact ⟨i + 1, at1, A, d, ps, by omega, by go_num, rfl, by omega, hpl, HI.out.mono (by omega)⟩
        case measure => simp [intOf]; omega
      | false =>
        go_upto_block 2 with fail
        go_cut [6] (fun av wx => ∃ (at2 : Int) (A : Option Addr) (d : Nat) (qs : List Punch), av = .int .i64 at2 ∧ (0 ≤ at2 ∧ at2 ≤ 3860 + 260 * (i : Int)) ∧ qs.length ≤ 12 ∧ Hid (InCd w.heap.size g (w.heap.size + 1) c w wx (n + 4 + 6 * i + 6) x0 x1 0 A qs.length d qs))
        case first =>
          cases e1 : ((y : Int) == 1) with
          | true =>
            have HI0 := Lib.hid (HI.out.below (Below.refl _ _).drew)
            have HIL := Lib.hid (HI0.out.below (below_alloc (Below.refl _ _) (.cells #[.int .i64 31, .int .i64 50, .int .i64 77] 3)))
            have l3d := HI0.out.cells.2.2.2.1
            have l3l := HIL.out.cells.2.2.2.1
            have l3b : ((w4.alloc (.cells #[.int .i64 31, .int .i64 50, .int .i64 77] 3)).drew).cell? ⟨g, 3, none⟩ = some (.slice A ps.length d) := l3l
            have hw10 : IntKind.i64.wrap (at1 + 10) = at1 + 10 := by rw [IntKind.wrap_i64]; omega
            go_wp2_with fail
            go_region_law
              (first
                | (go_simp; go_at_call 113; refine (among_dr [31, 50, 77] 31 77 HI0.out.dr _ rfl _ _ rfl (by omega) _).mono ?_; rintro e w5 ⟨cx, rfl, hcx, hd, hg5⟩; have HI5 := Lib.hid (HI0.out.keptC hd hg5); clear hd hg5; have l35 := HI5.out.cells.2.2.2.1; have HIA := Lib.hid (HI5.out.below (below_alloc (Below.refl _ _) (.cells #[.int .i64 cx, .int .i64 at1] 77))); have HSR := Lib.hid (show Src (w5.alloc (.cells #[.int .i64 cx, .int .i64 at1] 77)) 2 (some ⟨w5.heap.size, 0, none⟩) 1 [Punch.lst ⟨cx, at1⟩] from Src.lit w5 77 (Punch.lst ⟨cx, at1⟩) w5.heap.size rfl rfl (Punch.one _)); have HLL := Lib.hid (show (ps.map Punch.lst).length + 1 ≤ 2147483648 by simp; omega); have HSZ := Lib.hid (show w.heap.size + 1 ≤ (w5.alloc (.cells #[.int .i64 cx, .int .i64 at1] 77)).heap.size from by have := HIA.out.lit.lt; have := HIA.out.apart; omega); have l3a := HIA.out.cells.2.2.2.1)
                | (refine tyPunch.stepAppendR (by rfl) _ _ (by rfl) (w.heap.size + 1) (.slice A ps.length d) _ (by rfl) HIA.out.row _ 1 1 _ (by rfl) HSR.out HLL.out HSZ.out ?_; intro o7 w7 hrow7 hg7 hat7; obtain ⟨A7, c7, rfl, -, -⟩ := hrow7.parts; simp only [List.length_append, List.length_map, List.length_singleton] at hrow7 hat7 ⊢; have HL7 := Lib.hid (HIA.out.lit.grown hg7 HIA.out.far); have l73 := HL7.out.range 3 _ rfl; have l7f := HL7.out.frozen 3; simp only [Nat.zero_add] at l73; have HG7 := Lib.hid (grown_own HIA.out.dr.grown hg7 (fun k e => by have := (HIA.out.row.lt k e).1; omega)); have HP7 := Lib.hid (HIA.out.push (q := ⟨cx, at1⟩) hrow7 hg7 hat7)))
            all_goals
              go_wp2_with fail
              go_meet
              exact ⟨at1 + 10, A7, c7, ps ++ [⟨cx, at1⟩], rfl, by omega, by simp; omega, Lib.hid (by have := HP7.out.mono (n' := n + 4 + 6 * i + 6) (by omega); simpa using this)⟩
          | false =>
            cases e2 : ((y : Int) == 2) with
            | true =>
              obtain ⟨bq, cap, heq, -, -, -⟩ := (HCO.out w4 HI.out.dr.grown).form (by simp; omega)
              simp only [Value.slice.injEq, List.length_map] at heq
              obtain ⟨rfl, -, rfl⟩ := heq
              have HCE := Lib.hid (show ∀ W, w.grownBy W (some c) → W.cell? ⟨bq, i, none⟩ = some (.int .i64 cs[i]) from fun W hW => by
                have r1 := (HCO.out W hW).range (k := i) (by simpa using hi)
                simp only [List.getElem_map] at r1
                have r2 := int_at r1
                rwa [Nat.mul_one] at r2)
              generalize cs[i] = cx at HCE
              have HI0 := Lib.hid (HI.out.below (Below.refl _ _).drew)
              have HIA := Lib.hid (HI0.out.below (below_alloc (Below.refl _ _) (.cells #[.int .i64 cx, .int .i64 at1] 77)))
              have HSR := Lib.hid (show Src (w4.drew.alloc (.cells #[.int .i64 cx, .int .i64 at1] 77)) 2 (some ⟨w4.drew.heap.size, 0, none⟩) 1 [Punch.lst ⟨cx, at1⟩] from Src.lit w4.drew 77 (Punch.lst ⟨cx, at1⟩) w4.drew.heap.size rfl rfl (Punch.one _))
              have HLL := Lib.hid (show (ps.map Punch.lst).length + 1 ≤ 2147483648 by simp; omega)
              have HSZ := Lib.hid (show w.heap.size + 1 ≤ (w4.drew.alloc (.cells #[.int .i64 cx, .int .i64 at1] 77)).heap.size from by have := HIA.out.lit.lt; have := HIA.out.apart; omega)
              have l3d := HI0.out.cells.2.2.2.1
              have l3a := HIA.out.cells.2.2.2.1
              have l3b : ((w4.alloc (.cells #[.int .i64 cx, .int .i64 at1] 77)).drew).cell? ⟨g, 3, none⟩ = some (.slice A ps.length d) := l3a
              go_wp2_with fail
              have q0 := HCE.out _ HI.out.dr.grown
              have q1 := HCE.out _ HI0.out.dr.grown
              have q2 := HCE.out _ HIA.out.dr.grown
              have q3 : ((w4.alloc (.cells #[.int .i64 cx, .int .i64 at1] 77)).drew).cell? ⟨bq, i, none⟩ = some (.int .i64 cx) := q2
              go_region_law
                (first
                  | (refine tyPunch.stepAppendR (by rfl) _ _ (by rfl) (w.heap.size + 1) (.slice A ps.length d) _ (by rfl) HIA.out.row _ 1 1 _ (by rfl) HSR.out HLL.out HSZ.out ?_; intro o7 w7 hrow7 hg7 hat7; obtain ⟨A7, c7, rfl, -, -⟩ := hrow7.parts; simp only [List.length_append, List.length_map, List.length_singleton] at hrow7 hat7 ⊢; have HL7 := Lib.hid (HIA.out.lit.grown hg7 HIA.out.far); have l73 := HL7.out.range 3 _ rfl; have l7f := HL7.out.frozen 3; simp only [Nat.zero_add] at l73; have HG7 := Lib.hid (grown_own HIA.out.dr.grown hg7 (fun k e => by have := (HIA.out.row.lt k e).1; omega)); have HP7 := Lib.hid (HIA.out.push (q := ⟨cx, at1⟩) hrow7 hg7 hat7)))
              all_goals
                go_wp2_with fail
                go_meet
                exact ⟨at1, A7, c7, ps ++ [⟨cx, at1⟩], rfl, by omega, by simp; omega, Lib.hid (by have := HP7.out.mono (n' := n + 4 + 6 * i + 6) (by omega); simpa using this)⟩
            | false =>
              go_wp2_with fail
              go_meet
              exact ⟨at1, A, d, ps, rfl, by omega, hpl, Lib.hid (HI.out.mono (by omega))⟩
        case rest =>
          clear HI hb1 hp hpp hpl
          obtain ⟨at1, A, d, ps, rfl, hb1, hpl, HI⟩ := hcut
          obtain ⟨a0, a1, a2, a3, f0, f1, f2, f3⟩ := HI.out.cells
          by_cases hp : ps.length < 12
          · have hpp : (ps.length : Int) < 12 := by omega
            go_wp2_with fail
            clear a0 a1 a2 a3 f0 f1 f2 f3
            obtain ⟨bq, cap, heq, -, -, -⟩ := (HCO.out wc HI.out.dr.grown).form (by simp; omega)
            simp only [Value.slice.injEq, List.length_map] at heq
            obtain ⟨rfl, -, rfl⟩ := heq
            have HCE := Lib.hid (show ∀ W, w.grownBy W (some c) → W.cell? ⟨bq, i, none⟩ = some (.int .i64 cs[i]) from fun W hW => by
              have r1 := (HCO.out W hW).range (k := i) (by simpa using hi)
              simp only [List.getElem_map] at r1
              have r2 := int_at r1
              rwa [Nat.mul_one] at r2)
            generalize cs[i] = cx at HCE
            have HI0 := Lib.hid (HI.out.below (Below.refl _ _).drew)
            have HIA := Lib.hid (HI0.out.below (below_alloc (Below.refl _ _) (.cells #[.int .i64 cx, .int .i64 at1] 77)))
            have HSR := Lib.hid (show Src (wc.drew.alloc (.cells #[.int .i64 cx, .int .i64 at1] 77)) 2 (some ⟨wc.drew.heap.size, 0, none⟩) 1 [Punch.lst ⟨cx, at1⟩] from Src.lit wc.drew 77 (Punch.lst ⟨cx, at1⟩) wc.drew.heap.size rfl rfl (Punch.one _))
            have HLL := Lib.hid (show (ps.map Punch.lst).length + 1 ≤ 2147483648 by simp; omega)
            have HSZ := Lib.hid (show w.heap.size + 1 ≤ (wc.drew.alloc (.cells #[.int .i64 cx, .int .i64 at1] 77)).heap.size from by have := HIA.out.lit.lt; have := HIA.out.apart; omega)
            have l3d := HI0.out.cells.2.2.2.1
            have l3a := HIA.out.cells.2.2.2.1
            have l3b : ((wc.alloc (.cells #[.int .i64 cx, .int .i64 at1] 77)).drew).cell? ⟨g, 3, none⟩ = some (.slice A ps.length d) := l3a
            go_wp2_with fail
            have q0 := HCE.out _ HI.out.dr.grown
            have q1 := HCE.out _ HI0.out.dr.grown
            have q2 := HCE.out _ HIA.out.dr.grown
            have q3 : ((wc.alloc (.cells #[.int .i64 cx, .int .i64 at1] 77)).drew).cell? ⟨bq, i, none⟩ = some (.int .i64 cx) := q2
            go_region_law
              (first
                | (refine tyPunch.stepAppendR (by rfl) _ _ (by rfl) (w.heap.size + 1) (.slice A ps.length d) _ (by rfl) HIA.out.row _ 1 1 _ (by rfl) HSR.out HLL.out HSZ.out ?_; intro o7 w7 hrow7 hg7 hat7; obtain ⟨A7, c7, rfl, -, -⟩ := hrow7.parts; simp only [List.length_append, List.length_map, List.length_singleton] at hrow7 hat7 ⊢; have HL7 := Lib.hid (HIA.out.lit.grown hg7 HIA.out.far); have l73 := HL7.out.range 3 _ rfl; have l7f := HL7.out.frozen 3; simp only [Nat.zero_add] at l73; have HG7 := Lib.hid (grown_own HIA.out.dr.grown hg7 (fun k e => by have := (HIA.out.row.lt k e).1; omega)); have HP7 := Lib.hid (HIA.out.push (q := ⟨cx, at1⟩) hrow7 hg7 hat7)))
            all_goals
              go_wp2_with fail
              go_roundw
              case rel => exact ⟨i + 1, at1, A7, c7, ps ++ [⟨cx, at1⟩], by omega, by go_num, rfl, by omega, by simp; omega, Lib.hid (by have := HP7.out.mono (n' := n + 4 + 6 * (i + 1)) (by omega); simpa using this)⟩
              case measure => simp [intOf]; omega
          · have hpp : ¬ (ps.length : Int) < 12 := by omega
            go_wp2_with fail
            go_roundw
            case rel => exact ⟨i + 1, at1, A, d, ps, by omega, by go_num, rfl, by omega, hpl, HI.out.mono (by omega)⟩
            case measure => simp [intOf]; omega
  case rest =>
    clear HI
    obtain ⟨at_, A, d, ps, rfl, hat, hpl, HI⟩ := hcut
    obtain ⟨a0, a1, a2, a3, f0, f1, f2, f3⟩ := HI.out.cells
    go_wp2_with fail
    clear a0 a1 a2 a3 f0 f1 f2 f3
    refine (among_dr [0, 20, 400] 0 400 HI.out.dr _ rfl _ _ rfl (by omega) _).mono ?_
    rintro e w3 ⟨t2, rfl, ht2, hd, hg⟩
    replace HI := Lib.hid (HI.out.keptC hd hg)
    clear hd hg
    have hwr : IntKind.i64.wrap (at_ + t2) = at_ + t2 := by rw [IntKind.wrap_i64]; omega
    obtain ⟨a0, a1, a2, a3, f0, f1, f2, f3⟩ := HI.out.cells
    go_upto_region 17 with fail
    replace HI := Lib.hid (HI.out.put2 (at_ + t2))
    clear a0 a1 a2 a3 f0 f1 f2 f3
    generalize w3.setCell ⟨g, 2, none⟩ (.int .i64 (at_ + t2)) = W3 at HI ⊢
    generalize at_ + t2 = fin at HI
    go_wp2_with fail
    refine (pick_dr 24 HI.out.dr (by omega) (by omega) (by omega)).mono ?_
    rintro e w4 ⟨y, hy, rfl, hd, hg⟩
    replace HI := Lib.hid (HI.out.keptC hd hg)
    clear hd hg
    go_upto_block 3 with fail
    go_cut [88] (fun _ wx => ∃ (k0 k1 k2 : Int), Hid (InCd w.heap.size g (w.heap.size + 1) c w wx (n + 110) k0 k1 k2 A ps.length d ps))
    case first =>
      obtain ⟨a0, a1, a2, a3, f0, f1, f2, f3⟩ := HI.out.cells
      by_cases h0 : (y : Int) = 0
      · go_wp2_with fail
        go_meet
        exact ⟨_, _, _, Lib.hid ((HI.out.put2 (-1)).mono (by omega))⟩
      by_cases h1 : (y : Int) = 1
      · go_wp2_with fail
        go_meet
        exact ⟨_, _, _, Lib.hid ((HI.out.put2 (-1)).mono (by omega))⟩
      by_cases h2 : (y : Int) = 2
      · go_wp2_with fail
        clear a0 a1 a2 a3 f0 f1 f2 f3
        refine (among_dr [0, 10000] 0 10000 HI.out.dr _ rfl _ _ rfl (by omega) _).mono ?_
        rintro e w5 ⟨z, rfl, hz, hd, hg⟩
        replace HI := Lib.hid (HI.out.keptC hd hg)
        clear hd hg
        obtain ⟨a0, a1, a2, a3, f0, f1, f2, f3⟩ := HI.out.cells
        go_wp2_with fail
        go_meet
        exact ⟨_, _, _, Lib.hid ((HI.out.put0 z).mono (by omega))⟩
      by_cases h3 : (y : Int) = 3
      · have hw1 : IntKind.i64.wrap (at_ + 1) = at_ + 1 := by rw [IntKind.wrap_i64]; omega
        go_wp2_with fail
        clear a0 a1 a2 a3 f0 f1 f2 f3
        refine (among_dr [-1, 36001, at_ + 1, 36000] (-1) 100000 HI.out.dr _ rfl _ _ rfl (by omega) _ (h0 := by simp) (hb := by intro x hx; simp at hx; omega)).mono ?_
        rintro e w5 ⟨z, rfl, hz, hd, hg⟩
        replace HI := Lib.hid (HI.out.keptC hd hg)
        clear hd hg
        obtain ⟨a0, a1, a2, a3, f0, f1, f2, f3⟩ := HI.out.cells
        go_wp2_with fail
        go_meet
        exact ⟨_, _, _, Lib.hid ((HI.out.put1 z).mono (by omega))⟩
      by_cases h4 : (y : Int) = 4
      · have hw1 : IntKind.i64.wrap (x1 - 1) = x1 - 1 := by rw [IntKind.wrap_i64]; omega
        go_wp2_with fail
        go_meet
        exact ⟨_, _, _, Lib.hid ((HI.out.put2 (x1 - 1)).mono (by omega))⟩
      go_wp2_with fail
      go_meet
      exact ⟨_, _, _, Lib.hid (HI.out.mono (by omega))⟩
    case rest =>
      clear HI
      obtain ⟨k0, k1, k2, HI⟩ := hcut
      obtain ⟨a0, a1, a2, a3, f0, f1, f2, f3⟩ := HI.out.cells
      have hz := HI.out.zero.range
      have y0 := hz 0 _ rfl
      have y1 := hz 1 _ rfl
      have y2 := hz 2 _ rfl
      have y3 := hz 3 _ rfl
      have yf := HI.out.zero.frozen
      simp only [Nat.zero_add] at y0 y1 y2 y3
      go_wp2_with fail
      have HAP := Lib.hid HI.out.apart
      refine bodyPost_ret (v := .agg #[.int .i64 k0, .int .i64 k1, .int .i64 k2, .slice A ps.length d]) (by simp [results, Try.results114, go_sem, y0, y1, y2, y3]) rfl ⟨⟨⟨k0, k1, k2, ps⟩, A, ps.length, d⟩, rfl, ?_, hpl, ?_⟩
      · have hne : (Value.slice A ps.length d).ownBlock ≠ some w.heap.size := fun e => by have := (HI.out.row.lt _ e).1; omega
        exact Row.mono (Row.putNe_ (Row.putNe_ (Row.putNe_ (Row.putNe_ HI.out.row hne _) hne _) hne _) hne _) (by omega)
      · exact (HI.out.dr.own hlt (grown_trans (grown_trans (grown_trans grown_setCell grown_setCell) grown_setCell) grown_setCell) (fun k e => by have := Option.some.inj e; omega)).mono (by omega)
end Go.Proofs.Ytojpklpfnmjikaa
