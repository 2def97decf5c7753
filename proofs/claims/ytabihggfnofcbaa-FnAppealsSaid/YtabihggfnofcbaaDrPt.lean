/- The draws of protests with one's number, and others. No condition. -/
import Derived.Test.YtabihggfnofcbaaDrPs
import Derived.Deep.RegionLaw
namespace Go.Proofs.Ytabihggfnofcbaa
open Go Go.RowKit

theorem sl_prots {base : Nat} {w : World} {v : Value} {ps : List Prot} (h : Row base 25 6 w v (ps.map Prot.lst)) : Sl (Flat Prot.lst) 6 w v ps := Sl.of_flat h
/-- A cell of drawn protests, behind steps of the cursor. -/
theorem prot_at {base d : Nat} {A : Option Addr} {w : World} {ps : List Prot} (h : Row base 25 6 w (.slice A ps.length d) (ps.map Prot.lst)) {k : Nat} (hk : k < ps.length) : ∃ g, A = some ⟨g, 0, none⟩ ∧ base ≤ g ∧ w.rangeAt g (k * 6) ps[k].lst := by
  obtain ⟨g, cap, he, hbg, hgl, hcap⟩ := h.form (by simp; omega)
  simp only [Value.slice.injEq] at he
  obtain ⟨rfl, _, rfl⟩ := he
  have hrg := h.range (k := k) (by simpa using hk)
  simp only [List.getElem_map] at hrg
  exact ⟨g, rfl, hbg, hrg⟩
set_option maxRecDepth 100000 in
set_option maxHeartbeats 8000000 in
theorem protestId_any (c n base : Nat) (ps : List Prot) (v : Value) (st : Int) (w0 w : World) (h : Dr c w0 w n) (hn : n ≤ 10000) (hrow : Row base 25 6 w v (ps.map Prot.lst)) (hcb : c < base) (hl : ps.length ≤ 12) (hp : ∀ p ∈ ps, DrawnPr p) :
    Calls Try.prog 89 #[.pointer (some ⟨c, 0, none⟩), v, .int .i64 st] w fun e w' => ∃ x : Int, e = .returned (.int .i64 x) ∧ (-200000 ≤ x ∧ x ≤ 200000) ∧ Row base 25 6 w' v (ps.map Prot.lst) ∧ Dr c w0 w' (n + 100) ∧ w.grownBy w' (some c) := by
  have hlt := h.cur.lt
  have HW := Lib.hid h
  obtain ⟨A, d, rfl, hd1, hd2⟩ := hrow.parts
  simp only [List.length_map] at hrow hd1 ⊢
  have HD := Lib.hid ((Dr.start h.cur).alloc (.cells #[] 3))
  have HQ := Lib.hid (hrow.alloc (.cells #[] 3))
  have HR := Lib.hid (show Row w.heap.size 3 1 (w.alloc (.cells #[] 3)) (.slice (some ⟨w.heap.size, 0, none⟩) 0 0) (([] : List Int).map ints) from Row.lit_nil w 3 1 (Nat.le_refl _))
  have HP := Lib.hid hp
  have HBW := Lib.hid (show ∀ g, (Value.slice A ps.length d).ownBlock = some g → g < w.heap.size from fun g hg => (hrow.lt g hg).2)
  clear h hrow hp
  go_enter Try.func89, Try.ntmps89
  go_upto_region 2 with fail
  generalize w.alloc (.cells #[] 3) = W0 at *
  go_wp2_with fail
  go_loopw [7, 8] (fun ov iv wr => ∃ (k : Nat) (xs : List Int), k ≤ ps.length ∧ iv = .int .i64 k ∧ Hid (xs.length ≤ k) ∧ Hid (∀ x ∈ xs, -200000 ≤ x ∧ x ≤ 200000) ∧ Hid (Row w.heap.size 3 1 wr ov (xs.map ints)) ∧ Hid (Row base 25 6 wr (.slice A ps.length d) (ps.map Prot.lst)) ∧ Hid (Dr c w wr (n + 4 * k)))
    (fun _ iv _ => ps.length - (intOf iv).toNat)
  case atStart => exact ⟨0, [], by omega, rfl, by show _ ≤ _; simp, fun p hp => absurd hp (by simp), HR.out, HQ.out, HD.out.mono (by omega)⟩
  case round =>
    clear HR HD HQ
    obtain ⟨k, xs, hk, rfl, HL, HX, HR, HQ, HD⟩ := hrel
    by_cases hlt2 : k < ps.length
    · have hlk : (k : Int) < (ps.length : Int) := by omega
      obtain ⟨g, rfl, hbg, hrg⟩ := prot_at HQ.out hlt2
      have HPK := Lib.hid (HP.out _ (List.getElem_mem hlt2))
      obtain ⟨pk, hpk⟩ : ∃ pk, ps[k] = pk := ⟨_, rfl⟩
      have HPE := Lib.hid hpk
      rw [hpk] at hrg HPK
      clear hpk
      obtain ⟨b0, b1, b2, b3, b4, b5⟩ := pk
      have HRG := Lib.hid hrg
      have hcl := Prot.cells hrg
      clear hrg
      simp only at hcl
      go_upto_region 5 with fail
      go_cut [26] (fun b wx => (∃ q : Bool, b = .bool q) ∧ Hid (Dr c w wx (n + 4 * k + 2)) ∧ Hid (wr.grownBy wx (some c)))
      case first =>
        by_cases he : b4 = st
        · subst he
          go_wp2_with fail
          go_meet
          exact ⟨⟨_, rfl⟩, HD.out.mono (by omega), World.grownBy.refl _ _⟩
        · have he' : (b4 == st) = false := by simpa using he
          go_wp2_with fail
          refine (one_dr 5 HD.out (by omega) (by omega)).mono ?_
          rintro e w' ⟨b, rfl, hd, hg⟩
          have HD2 := Lib.hid hd
          have HG2 := Lib.hid hg
          clear hd hg
          go_wp2_with fail
          go_meet
          exact ⟨⟨_, rfl⟩, HD2.out, HG2.out⟩
      case rest =>
        obtain ⟨⟨q, rfl⟩, HD2, HG⟩ := hcut
        have HR2 := Lib.hid (HR.out.keptC hlt HG.out)
        have HQ2 := Lib.hid (HQ.out.keptC hcb HG.out)
        clear hcl HD HG HR HQ
        cases q with
        | false =>
          go_wp2_with fail
          go_roundw
          case rel => exact ⟨k + 1, xs, by omega, by go_num, Nat.le_succ_of_le HL.out, HX.out, HR2.out, HQ2.out, HD2.out.mono (by omega)⟩
          case measure => simp [intOf]; omega
        | true =>
          have hcl := HQ2.out.range (k := k) (by simpa using hlt2)
          simp only [List.getElem_map] at hcl
          rw [HPE.out] at hcl
          replace hcl := Prot.cells hcl
          simp only at hcl
          have HRA := Lib.hid (HR2.out.alloc (.cells #[.int .i64 b0] 3))
          have HQA := Lib.hid (HQ2.out.alloc (.cells #[.int .i64 b0] 3))
          have HDA := Lib.hid (HD2.out.alloc (.cells #[.int .i64 b0] 3))
          have HSR := Lib.hid (show Src (wc.alloc (.cells #[.int .i64 b0] 3)) 1 (some ⟨wc.heap.size, 0, none⟩) 1 [ints b0] from Src.lit wc 3 (ints b0) wc.heap.size rfl rfl (ints_one _))
          have HLEN := Lib.hid (show (xs.map ints).length + 1 ≤ 2147483648 by have := HL.out; simp; omega)
          have hsz := HD2.out.size
          have hsw2 : w.heap.size ≤ (wc.alloc (.cells #[.int .i64 b0] 3)).heap.size := by simp; omega
          have hbw := HBW.out
          go_wp2_with (at_builtin; refine tyInt.append rfl _ _ rfl w.heap.size _ _ rfl HRA.out _ 1 1 [ints b0] rfl HSR.out HLEN.out hsw2 ?_; intro o7 w7 hrow7 hg7 hat7)
          have HD3 := Lib.hid (HDA.out.own hlt hg7 (fun g hg => (HRA.out.lt g hg).1))
          have HR3 := Lib.hid (show Row w.heap.size 3 1 w7 o7 ((xs ++ [b0]).map ints) from by simpa using hrow7)
          have HQ3 := Lib.hid (HQA.out.kept hg7 (.inr fun e => by have h1 := HBW.out g rfl; have h2 := (HRA.out.lt g e.symm).1; omega))
          have HX2 := Lib.hid (show ∀ x ∈ xs ++ [b0], -200000 ≤ x ∧ x ≤ 200000 from fun x hx => by
            rcases List.mem_append.1 hx with hx | hx
            · exact HX.out x hx
            · rw [List.mem_singleton.1 hx]; exact HPK.out.1)
          clear hrow7 hg7 hat7
          go_roundw
          case rel => exact ⟨k + 1, _, by omega, by go_num, by have := HL.out; show _ ≤ _; simp; omega, HX2.out, HR3.out, HQ3.out, HD3.out.mono (by omega)⟩
          case measure => simp [intOf]; omega
    · obtain rfl : k = ps.length := by omega
      obtain ⟨A2, d2, rfl, hd3, hd4⟩ := HR.out.parts
      simp only [List.length_map] at HR hd3 ⊢
      have HX2 := Lib.hid (show ∀ j (hj : j < xs.length), ∃ g2, A2 = some ⟨g2, 0, none⟩ ∧ c < g2 ∧ ∀ W, wr.grownBy W (some c) → W.cell? ⟨g2, j, none⟩ = some (.int .i64 xs[j]) from fun j hj => by
        obtain ⟨g2, cap, he, hbg, hgl, hcap⟩ := HR.out.form (by simp; omega)
        simp only [Value.slice.injEq] at he
        obtain ⟨rfl, _, rfl⟩ := he
        refine ⟨g2, rfl, by omega, fun W hW => ?_⟩
        have h1 := (HR.out.keptC hlt hW).range (k := j) (by simpa using hj)
        simp only [List.getElem_map] at h1
        have h2 := int_at h1
        rwa [Nat.mul_one] at h2)
      have hx12 : xs.length ≤ 12 := by have := HL.out; omega
      by_cases h0 : xs.length = 0
      · have h0' : ((xs.length : Int) == 0) = true := by simpa using h0
        go_wp2_with fail
        refine (among_dr [0, 1, 2, 50] 0 50 HD.out _ rfl _ _ rfl (by omega) _).mono ?_
        rintro e w' ⟨x, rfl, hx, hd, hg⟩
        have HFIN := Lib.hid (And.intro (HQ.out.keptC hcb hg) (And.intro hd (grown_trans HD.out.grown hg)))
        clear hd hg
        go_wp2_with fail
        go_ret
        exact ⟨x, rfl, by omega, HFIN.out.1, HW.out.step (HFIN.out.2.1.mono (by omega)).cur HFIN.out.2.2, HFIN.out.2.2⟩
      · have h0' : ((xs.length : Int) == 0) = false := by rw [beq_eq_false_iff_ne]; omega
        go_wp2_with fail
        refine (pick_dr xs.length HD.out (by omega) (by omega) (by omega)).mono ?_
        rintro e w' ⟨y, hy, rfl, hd, hg⟩
        have hyl : y < xs.length := by omega
        obtain ⟨g2, rfl, hcg2, hcell⟩ := HX2.out y hyl
        have hcell := hcell w' hg
        have HFIN := Lib.hid (And.intro (HQ.out.keptC hcb hg) (And.intro hd (grown_trans HD.out.grown hg)))
        have HXY := Lib.hid (HX.out _ (List.getElem_mem hyl))
        generalize xs[y] = z at *
        clear hd hg
        go_wp2_with fail
        go_ret
        exact ⟨_, rfl, HXY.out, HFIN.out.1, HW.out.step (HFIN.out.2.1.mono (by omega)).cur HFIN.out.2.2, HFIN.out.2.2⟩
/-- What the draws give: protests, and numbers. -/
def DrewP (w w' : World) (v : Value) (ps : List Prot) : Prop := Sl (Flat Prot.lst) 6 w' v ps ∧ ps.length ≤ 12 ∧ (∀ p ∈ ps, DrawnPr p) ∧ Below w.heap.size w w'
abbrev NearI (x : Int) : Prop := -500000 ≤ x ∧ x ≤ 500000
set_option maxRecDepth 100000 in
set_option maxHeartbeats 4000000 in
theorem draw_DecideProtest (v0 : Value) (m : Nat) (w : World) (h : CodeS w v0 m) :
    Calls Try.prog 51 #[v0] w fun e w' => ∃ (v : Value) (ps : List Prot) (x : Int), e = .returned (.tuple #[v, .int .i64 x]) ∧ NearI x ∧ DrewP w w' v ps := by
  obtain ⟨A, cap, rfl⟩ : ∃ A cap, v0 = .slice A m cap := by obtain ⟨A, cap, e, _⟩ := h; exact ⟨A, cap, e⟩
  obtain ⟨W0, hW0⟩ : ∃ W0, w.alloc (.cells #[.slice A m cap, .int .i64 0, .int .u64 0] 84) = W0 := ⟨_, rfl⟩
  have hcur : Cur w.heap.size W0 0 := by rw [← hW0]; exact Cur.new h w.heap.size rfl
  have HD := Lib.hid (Dr.start hcur)
  have hc1 : w.heap.size < W0.heap.size := by rw [← hW0]; simp
  have HBL := Lib.hid (show ∀ W : World, W0.grownBy W (some w.heap.size) → Below w.heap.size w W from fun W hg => by rw [← hW0] at hg; exact below_cur hg)
  have HW := Lib.hid (protests_any w.heap.size 0 _ hcur (by omega))
  have HW0 := Lib.hid hW0
  clear h hcur hW0
  go_enter Try.func51, Try.ntmps51
  go_wp2_with fail
  rw [HW0.out]
  refine HW.out.mono ?_
  rintro e w' ⟨v, ps, rfl, hr, hl, hp, hc, hg⟩
  replace HD := Lib.hid (HD.out.step hc hg)
  have HR := Lib.hid hr
  have HP := Lib.hid hp
  clear HW hr hp hc hg
  go_wp2_with fail
  refine (protestId_any w.heap.size _ W0.heap.size ps v _ W0 _ HD.out (by omega) HR.out hc1 hl HP.out).mono ?_
  rintro e w' ⟨x, rfl, hx, hr, hd, hg⟩
  replace HD := Lib.hid hd
  replace HR := Lib.hid hr
  clear hd hr hg
  have HFIN := Lib.hid (show DrewP w w' v ps from ⟨sl_prots HR.out, hl, HP.out, HBL.out _ HD.out.grown⟩)
  clear HR HD HP HBL
  go_wp2_with fail
  go_ret2
  exact ⟨_, _, _, rfl, by omega, HFIN.out⟩
set_option maxRecDepth 100000 in
set_option maxHeartbeats 4000000 in
theorem draw_HearProtest (v0 : Value) (m : Nat) (w : World) (h : CodeS w v0 m) :
    Calls Try.prog 52 #[v0] w fun e w' => ∃ (v : Value) (ps : List Prot) (x : Int), e = .returned (.tuple #[v, .int .i64 x]) ∧ NearI x ∧ DrewP w w' v ps := by
  obtain ⟨A, cap, rfl⟩ : ∃ A cap, v0 = .slice A m cap := by obtain ⟨A, cap, e, _⟩ := h; exact ⟨A, cap, e⟩
  obtain ⟨W0, hW0⟩ : ∃ W0, w.alloc (.cells #[.slice A m cap, .int .i64 0, .int .u64 0] 84) = W0 := ⟨_, rfl⟩
  have hcur : Cur w.heap.size W0 0 := by rw [← hW0]; exact Cur.new h w.heap.size rfl
  have HD := Lib.hid (Dr.start hcur)
  have hc1 : w.heap.size < W0.heap.size := by rw [← hW0]; simp
  have HBL := Lib.hid (show ∀ W : World, W0.grownBy W (some w.heap.size) → Below w.heap.size w W from fun W hg => by rw [← hW0] at hg; exact below_cur hg)
  have HW := Lib.hid (protests_any w.heap.size 0 _ hcur (by omega))
  have HW0 := Lib.hid hW0
  clear h hcur hW0
  go_enter Try.func52, Try.ntmps52
  go_wp2_with fail
  rw [HW0.out]
  refine HW.out.mono ?_
  rintro e w' ⟨v, ps, rfl, hr, hl, hp, hc, hg⟩
  replace HD := Lib.hid (HD.out.step hc hg)
  have HR := Lib.hid hr
  have HP := Lib.hid hp
  clear HW hr hp hc hg
  go_wp2_with fail
  refine (among_dr [0, 4] 0 4 HD.out _ rfl _ _ rfl (by omega) _).mono ?_
  rintro e w' ⟨y, rfl, hy, hd, hg⟩
  replace HD := Lib.hid hd
  replace HR := Lib.hid (HR.out.keptC (by omega) hg)
  clear hd hg
  go_wp2_with fail
  refine (protestId_any w.heap.size _ W0.heap.size ps v _ W0 _ HD.out (by omega) HR.out hc1 hl HP.out).mono ?_
  rintro e w' ⟨x, rfl, hx, hr, hd, hg⟩
  replace HD := Lib.hid hd
  replace HR := Lib.hid hr
  clear hd hr hg
  have HFIN := Lib.hid (show DrewP w w' v ps from ⟨sl_prots HR.out, hl, HP.out, HBL.out _ HD.out.grown⟩)
  clear HR HD HP HBL
  go_wp2_with fail
  go_ret2
  exact ⟨_, _, _, rfl, by omega, HFIN.out⟩
set_option maxRecDepth 100000 in
set_option maxHeartbeats 4000000 in
theorem draw_VoteOn (v0 : Value) (m : Nat) (w : World) (h : CodeS w v0 m) :
    Calls Try.prog 53 #[v0] w fun e w' => ∃ (v : Value) (ps : List Prot) (x : Int) (b : Bool), e = .returned (.tuple #[v, .int .i64 x, .bool b]) ∧ NearI x ∧ DrewP w w' v ps := by
  obtain ⟨A, cap, rfl⟩ : ∃ A cap, v0 = .slice A m cap := by obtain ⟨A, cap, e, _⟩ := h; exact ⟨A, cap, e⟩
  obtain ⟨W0, hW0⟩ : ∃ W0, w.alloc (.cells #[.slice A m cap, .int .i64 0, .int .u64 0] 84) = W0 := ⟨_, rfl⟩
  have hcur : Cur w.heap.size W0 0 := by rw [← hW0]; exact Cur.new h w.heap.size rfl
  have HD := Lib.hid (Dr.start hcur)
  have hc1 : w.heap.size < W0.heap.size := by rw [← hW0]; simp
  have HBL := Lib.hid (show ∀ W : World, W0.grownBy W (some w.heap.size) → Below w.heap.size w W from fun W hg => by rw [← hW0] at hg; exact below_cur hg)
  have HW := Lib.hid (protests_any w.heap.size 0 _ hcur (by omega))
  have HW0 := Lib.hid hW0
  clear h hcur hW0
  go_enter Try.func53, Try.ntmps53
  go_wp2_with fail
  rw [HW0.out]
  refine HW.out.mono ?_
  rintro e w' ⟨v, ps, rfl, hr, hl, hp, hc, hg⟩
  replace HD := Lib.hid (HD.out.step hc hg)
  have HR := Lib.hid hr
  have HP := Lib.hid hp
  clear HW hr hp hc hg
  go_wp2_with fail
  refine (protestId_any w.heap.size _ W0.heap.size ps v _ W0 _ HD.out (by omega) HR.out hc1 hl HP.out).mono ?_
  rintro e w' ⟨x, rfl, hx, hr, hd, hg⟩
  replace HD := Lib.hid hd
  replace HR := Lib.hid hr
  clear hd hr hg
  go_wp2_with fail
  refine (one_dr 2 HD.out (by omega) (by omega)).mono ?_
  rintro e w' ⟨b, rfl, hd, hg⟩
  replace HD := Lib.hid hd
  replace HR := Lib.hid (HR.out.keptC (by omega) hg)
  clear hd hg
  have HFIN := Lib.hid (show DrewP w w' v ps from ⟨sl_prots HR.out, hl, HP.out, HBL.out _ HD.out.grown⟩)
  clear HR HD HP HBL
  go_wp2_with fail
  go_ret3
  exact ⟨_, _, _, _, rfl, by omega, HFIN.out⟩
set_option maxRecDepth 100000 in
set_option maxHeartbeats 4000000 in
theorem draw_MakeProtest (v0 : Value) (m : Nat) (w : World) (h : CodeS w v0 m) :
    Calls Try.prog 48 #[v0] w fun e w' => ∃ (v : Value) (ps : List Prot) (x y z : Int), e = .returned (.tuple #[v, .int .i64 x, .int .i64 y, .int .i64 z]) ∧ NearI x ∧ NearI y ∧ NearI z ∧ DrewP w w' v ps := by
  obtain ⟨A, cap, rfl⟩ : ∃ A cap, v0 = .slice A m cap := by obtain ⟨A, cap, e, _⟩ := h; exact ⟨A, cap, e⟩
  obtain ⟨W0, hW0⟩ : ∃ W0, w.alloc (.cells #[.slice A m cap, .int .i64 0, .int .u64 0] 84) = W0 := ⟨_, rfl⟩
  have hcur : Cur w.heap.size W0 0 := by rw [← hW0]; exact Cur.new h w.heap.size rfl
  have HD := Lib.hid (Dr.start hcur)
  have hc1 : w.heap.size < W0.heap.size := by rw [← hW0]; simp
  have HBL := Lib.hid (show ∀ W : World, W0.grownBy W (some w.heap.size) → Below w.heap.size w W from fun W hg => by rw [← hW0] at hg; exact below_cur hg)
  have HW := Lib.hid (protests_any w.heap.size 0 _ hcur (by omega))
  have HW0 := Lib.hid hW0
  clear h hcur hW0
  go_enter Try.func48, Try.ntmps48
  go_wp2_with fail
  rw [HW0.out]
  refine HW.out.mono ?_
  rintro e w' ⟨v, ps, rfl, hr, hl, hp, hc, hg⟩
  replace HD := Lib.hid (HD.out.step hc hg)
  have HR := Lib.hid hr
  have HP := Lib.hid hp
  clear HW hr hp hc hg
  go_wp2_with fail
  obtain ⟨gl, hgl, hcg⟩ : ∃ gl, w'.heap.size = gl ∧ w.heap.size < gl := ⟨_, rfl, by have := HD.out.size; omega⟩
  have HLIT := Lib.hid (LitAt.new w' 3 (([1,2,999,0,1000] : List Int).map (Value.int .i64)) w'.heap.size rfl)
  replace HD := Lib.hid (HD.out.alloc (.cells (([1,2,999,0,1000] : List Int).map (Value.int .i64)).toArray 3))
  replace HR := Lib.hid (HR.out.alloc (.cells (([1,2,999,0,1000] : List Int).map (Value.int .i64)).toArray 3))
  rw [hgl] at HLIT
  refine (pick_dr 24 HD.out (by omega) (by omega) (by omega)).mono ?_
  rintro e w' ⟨y, hy, rfl, hd, hg⟩
  replace HD := Lib.hid hd
  replace HR := Lib.hid (HR.out.keptC (by omega) hg)
  replace HLIT := Lib.hid (HLIT.out.keptC hcg hg)
  clear hd hg
  go_wp2_with fail
  refine (cut_dr ([1,2,999,0,1000] : List Int) (-100000) 100000 HD.out gl _ _ HLIT.out rfl _ _ (by omega) (by simp; omega) (by omega) (by omega) (by omega) (by omega)).mono ?_
  rintro e w' ⟨x1, rfl, hx1, hd, hg⟩
  replace HD := Lib.hid hd
  replace HR := Lib.hid (HR.out.keptC (by omega) hg)
  clear hd hg HLIT hgl hcg
  go_wp2_with fail
  obtain ⟨gl, hgl, hcg⟩ : ∃ gl, w'.heap.size = gl ∧ w.heap.size < gl := ⟨_, rfl, by have := HD.out.size; omega⟩
  have HLIT := Lib.hid (LitAt.new w' 3 (([3,4,1,1000] : List Int).map (Value.int .i64)) w'.heap.size rfl)
  replace HD := Lib.hid (HD.out.alloc (.cells (([3,4,1,1000] : List Int).map (Value.int .i64)).toArray 3))
  replace HR := Lib.hid (HR.out.alloc (.cells (([3,4,1,1000] : List Int).map (Value.int .i64)).toArray 3))
  rw [hgl] at HLIT
  refine (pick_dr 24 HD.out (by omega) (by omega) (by omega)).mono ?_
  rintro e w' ⟨y, hy, rfl, hd, hg⟩
  replace HD := Lib.hid hd
  replace HR := Lib.hid (HR.out.keptC (by omega) hg)
  replace HLIT := Lib.hid (HLIT.out.keptC hcg hg)
  clear hd hg
  go_wp2_with fail
  refine (cut_dr ([3,4,1,1000] : List Int) (-100000) 100000 HD.out gl _ _ HLIT.out rfl _ _ (by omega) (by simp; omega) (by omega) (by omega) (by omega) (by omega)).mono ?_
  rintro e w' ⟨x2, rfl, hx2, hd, hg⟩
  replace HD := Lib.hid hd
  replace HR := Lib.hid (HR.out.keptC (by omega) hg)
  clear hd hg HLIT hgl hcg
  go_wp2_with fail
  obtain ⟨gl, hgl, hcg⟩ : ∃ gl, w'.heap.size = gl ∧ w.heap.size < gl := ⟨_, rfl, by have := HD.out.size; omega⟩
  have HLIT := Lib.hid (LitAt.new w' 3 (([0,5000,36000,-1,36001] : List Int).map (Value.int .i64)) w'.heap.size rfl)
  replace HD := Lib.hid (HD.out.alloc (.cells (([0,5000,36000,-1,36001] : List Int).map (Value.int .i64)).toArray 3))
  replace HR := Lib.hid (HR.out.alloc (.cells (([0,5000,36000,-1,36001] : List Int).map (Value.int .i64)).toArray 3))
  rw [hgl] at HLIT
  refine (pick_dr 24 HD.out (by omega) (by omega) (by omega)).mono ?_
  rintro e w' ⟨y, hy, rfl, hd, hg⟩
  replace HD := Lib.hid hd
  replace HR := Lib.hid (HR.out.keptC (by omega) hg)
  replace HLIT := Lib.hid (HLIT.out.keptC hcg hg)
  clear hd hg
  go_wp2_with fail
  refine (cut_dr ([0,5000,36000,-1,36001] : List Int) (-100000) 100000 HD.out gl _ _ HLIT.out rfl _ _ (by omega) (by simp; omega) (by omega) (by omega) (by omega) (by omega)).mono ?_
  rintro e w' ⟨x3, rfl, hx3, hd, hg⟩
  replace HD := Lib.hid hd
  replace HR := Lib.hid (HR.out.keptC (by omega) hg)
  clear hd hg HLIT hgl hcg
  have HFIN := Lib.hid (show DrewP w w' v ps from ⟨sl_prots HR.out, hl, HP.out, HBL.out _ HD.out.grown⟩)
  clear HR HD HP HBL
  go_wp2_with fail
  refine bodyPost_ret (results_tmp4 rfl _ _ _) rfl ?_
  exact ⟨_, _, _, _, _, rfl, by omega, by omega, by omega, HFIN.out⟩
set_option maxRecDepth 100000 in
set_option maxHeartbeats 4000000 in
theorem draw_ProtestsAbout (v0 : Value) (m : Nat) (w : World) (h : CodeS w v0 m) :
    Calls Try.prog 57 #[v0] w fun e w' => ∃ (v : Value) (ps : List Prot) (x : Int), e = .returned (.tuple #[v, .int .i64 x]) ∧ NearI x ∧ DrewP w w' v ps := by
  obtain ⟨A, cap, rfl⟩ : ∃ A cap, v0 = .slice A m cap := by obtain ⟨A, cap, e, _⟩ := h; exact ⟨A, cap, e⟩
  obtain ⟨W0, hW0⟩ : ∃ W0, w.alloc (.cells #[.slice A m cap, .int .i64 0, .int .u64 0] 84) = W0 := ⟨_, rfl⟩
  have hcur : Cur w.heap.size W0 0 := by rw [← hW0]; exact Cur.new h w.heap.size rfl
  have HD := Lib.hid (Dr.start hcur)
  have hc1 : w.heap.size < W0.heap.size := by rw [← hW0]; simp
  have HBL := Lib.hid (show ∀ W : World, W0.grownBy W (some w.heap.size) → Below w.heap.size w W from fun W hg => by rw [← hW0] at hg; exact below_cur hg)
  have HW := Lib.hid (protests_any w.heap.size 0 _ hcur (by omega))
  have HW0 := Lib.hid hW0
  clear h hcur hW0
  go_enter Try.func57, Try.ntmps57
  go_wp2_with fail
  rw [HW0.out]
  refine HW.out.mono ?_
  rintro e w' ⟨v, ps, rfl, hr, hl, hp, hc, hg⟩
  replace HD := Lib.hid (HD.out.step hc hg)
  have HR := Lib.hid hr
  have HP := Lib.hid hp
  clear HW hr hp hc hg
  go_wp2_with fail
  obtain ⟨gl, hgl, hcg⟩ : ∃ gl, w'.heap.size = gl ∧ w.heap.size < gl := ⟨_, rfl, by have := HD.out.size; omega⟩
  have HLIT := Lib.hid (LitAt.new w' 3 (([1,7,2,8,0,1000] : List Int).map (Value.int .i64)) w'.heap.size rfl)
  replace HD := Lib.hid (HD.out.alloc (.cells (([1,7,2,8,0,1000] : List Int).map (Value.int .i64)).toArray 3))
  replace HR := Lib.hid (HR.out.alloc (.cells (([1,7,2,8,0,1000] : List Int).map (Value.int .i64)).toArray 3))
  rw [hgl] at HLIT
  refine (pick_dr 24 HD.out (by omega) (by omega) (by omega)).mono ?_
  rintro e w' ⟨y, hy, rfl, hd, hg⟩
  replace HD := Lib.hid hd
  replace HR := Lib.hid (HR.out.keptC (by omega) hg)
  replace HLIT := Lib.hid (HLIT.out.keptC hcg hg)
  clear hd hg
  go_wp2_with fail
  refine (cut_dr ([1,7,2,8,0,1000] : List Int) (-100000) 100000 HD.out gl _ _ HLIT.out rfl _ _ (by omega) (by simp; omega) (by omega) (by omega) (by omega) (by omega)).mono ?_
  rintro e w' ⟨x1, rfl, hx1, hd, hg⟩
  replace HD := Lib.hid hd
  replace HR := Lib.hid (HR.out.keptC (by omega) hg)
  clear hd hg HLIT hgl hcg
  have HFIN := Lib.hid (show DrewP w w' v ps from ⟨sl_prots HR.out, hl, HP.out, HBL.out _ HD.out.grown⟩)
  clear HR HD HP HBL
  go_wp2_with fail
  go_ret2
  exact ⟨_, _, _, rfl, by omega, HFIN.out⟩
set_option maxRecDepth 100000 in
set_option maxHeartbeats 4000000 in
theorem draw_AreProtests (v0 : Value) (m : Nat) (w : World) (h : CodeS w v0 m) :
    Calls Try.prog 91 #[v0] w fun e w' => ∃ (v : Value) (ps : List Prot), e = .returned v ∧ DrewP w w' v ps := by
  obtain ⟨A, cap, rfl⟩ : ∃ A cap, v0 = .slice A m cap := by obtain ⟨A, cap, e, _⟩ := h; exact ⟨A, cap, e⟩
  obtain ⟨W0, hW0⟩ : ∃ W0, w.alloc (.cells #[.slice A m cap, .int .i64 0, .int .u64 0] 84) = W0 := ⟨_, rfl⟩
  have hcur : Cur w.heap.size W0 0 := by rw [← hW0]; exact Cur.new h w.heap.size rfl
  have HD := Lib.hid (Dr.start hcur)
  have hc1 : w.heap.size < W0.heap.size := by rw [← hW0]; simp
  have HBL := Lib.hid (show ∀ W : World, W0.grownBy W (some w.heap.size) → Below w.heap.size w W from fun W hg => by rw [← hW0] at hg; exact below_cur hg)
  have HW := Lib.hid (protests_any w.heap.size 0 _ hcur (by omega))
  have HW0 := Lib.hid hW0
  clear h hcur hW0
  go_enter Try.func91, Try.ntmps91
  go_wp2_with fail
  rw [HW0.out]
  refine HW.out.mono ?_
  rintro e w' ⟨v, ps, rfl, hr, hl, hp, hc, hg⟩
  replace HD := Lib.hid (HD.out.step hc hg)
  have HR := Lib.hid hr
  have HP := Lib.hid hp
  clear HW hr hp hc hg
  have HFIN := Lib.hid (show DrewP w w' v ps from ⟨sl_prots HR.out, hl, HP.out, HBL.out _ HD.out.grown⟩)
  clear HR HD HP HBL
  go_wp2_with fail
  go_ret
  exact ⟨_, _, rfl, HFIN.out⟩
set_option maxRecDepth 100000 in
theorem draw_UpheldRunners (v0 : Value) (m : Nat) (w : World) (h : CodeS w v0 m) :
    Calls Try.prog 58 #[v0] w fun e w' => ∃ (v : Value) (ps : List Prot), e = .returned v ∧ DrewP w w' v ps := by
  have HA := Lib.hid (draw_AreProtests v0 m w h)
  clear h
  go_enter Try.func58, Try.ntmps58
  go_wp2_with fail
  refine HA.out.mono ?_
  rintro e w' ⟨v, ps, rfl, hd⟩
  have HD := Lib.hid hd
  clear hd
  go_wp2_with fail
  go_ret
  exact ⟨_, _, rfl, HD.out⟩
end Go.Proofs.Ytabihggfnofcbaa
