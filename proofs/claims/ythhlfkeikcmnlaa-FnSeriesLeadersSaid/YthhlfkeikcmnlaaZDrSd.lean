/- The draws of series' rows, the others: points that are needed, points that are possible, one more score. No condition. -/
import Derived.Test.YthhlfkeikcmnlaaZDrSc
import Derived.Test.YthhlfkeikcmnlaaZMostQStdQ
namespace Go.Proofs.Ythhlfkeikcmnlaa
open Go Go.RowKit

set_option maxRecDepth 100000 in
set_option maxHeartbeats 8000000 in
theorem draw_MostPossible (v0 : Value) (m : Nat) (w : World) (h : CodeS w v0 m) :
    Calls Try.prog 51 #[v0] w fun e w' => ∃ (r b : Int) (v : Value) (x y : Int) (ps : List Score), e = .returned (.tuple #[.int .i64 r, .int .i64 b, v, .int .i64 x, .int .i64 y]) ∧ NearI r ∧ NearI b ∧ NearI x ∧ NearI y ∧ DrewS w w' v ps := by
  obtain ⟨A, cap, rfl⟩ : ∃ A cap, v0 = .slice A m cap := by obtain ⟨A, cap, e, _⟩ := h; exact ⟨A, cap, e⟩
  obtain ⟨W0, hW0⟩ : ∃ W0, w.alloc (.cells #[.slice A m cap, .int .i64 0, .int .u64 0] 81) = W0 := ⟨_, rfl⟩
  have hcur : Cur w.heap.size W0 0 := by rw [← hW0]; exact Cur.new h w.heap.size rfl
  have HD := Lib.hid (Dr.start hcur)
  have hc1 : w.heap.size < W0.heap.size := by rw [← hW0]; simp
  have HBL := Lib.hid (show ∀ W : World, W0.grownBy W (some w.heap.size) → Below w.heap.size w W from fun W hg => by rw [← hW0] at hg; exact below_cur hg)
  have HW := Lib.hid (scores20_any w.heap.size 0 _ hcur (by omega))
  have HW0 := Lib.hid hW0
  clear h hcur hW0
  go_enter Try.func51, Try.ntmps51
  go_wp2_with fail
  rw [HW0.out]
  refine HW.out.mono ?_
  rintro e w' ⟨r, b, v, ps, rfl, hr1, hb1, hr, hl, hp, hc, hg⟩
  replace HD := Lib.hid (HD.out.step hc hg)
  have HR := Lib.hid hr
  have HP := Lib.hid hp
  clear HW hr hp hc hg
  go_wp2_with fail
  refine (runner20_any w.heap.size _ ps v W0 _ HD.out (by omega) HR.out hc1 hl HP.out).mono ?_
  rintro e w' ⟨x, rfl, hx, hr, hd, hg⟩
  replace HD := Lib.hid hd
  replace HR := Lib.hid hr
  clear hd hr hg
  go_wp2_with fail
  obtain ⟨gl, hgl, hcg⟩ : ∃ gl, w'.heap.size = gl ∧ w.heap.size < gl := ⟨_, rfl, by have := HD.out.size; omega⟩
  have HLIT := Lib.hid (LitAt.new w' 3 (([0, 1, r, r, -1, r + 1] : List Int).map (Value.int .i64)) w'.heap.size rfl)
  replace HD := Lib.hid (HD.out.alloc (.cells (([0, 1, r, r, -1, r + 1] : List Int).map (Value.int .i64)).toArray 3))
  replace HR := Lib.hid (HR.out.alloc (.cells (([0, 1, r, r, -1, r + 1] : List Int).map (Value.int .i64)).toArray 3))
  rw [hgl] at HLIT
  refine (pick_dr 24 HD.out (by omega) (by omega) (by omega)).mono ?_
  rintro e w' ⟨y, hy, rfl, hd, hg⟩
  replace HD := Lib.hid hd
  replace HR := Lib.hid (HR.out.keptC (by omega) hg)
  replace HLIT := Lib.hid (HLIT.out.keptC hcg hg)
  clear hd hg
  go_wp2_with fail
  refine (cut_dr ([0, 1, r, r, -1, r + 1] : List Int) (-500) 2000 HD.out gl _ _ HLIT.out rfl _ _ (by omega) (by simp; omega) (by omega) (by omega) (by omega) (by omega) (by simp) (by intro x hx; simp at hx; omega)).mono ?_
  rintro e w' ⟨z, rfl, hz, hd, hg⟩
  replace HD := Lib.hid hd
  replace HR := Lib.hid (HR.out.keptC (by omega) hg)
  clear hd hg HLIT hgl hcg
  have HFIN := Lib.hid (show DrewS w w' v ps from ⟨Sl.of_flat HR.out, hl, HP.out, HBL.out _ HD.out.grown⟩)
  clear HR HD HP HBL
  go_wp2_with fail
  refine bodyPost_ret (results_tmp5 rfl _ _ _) rfl ?_
  exact ⟨_, _, _, _, _, _, rfl, by omega, by omega, by omega, by omega, HFIN.out⟩
theorem Row.three {base : Nat} {w : World} {A : Option Addr} {n d : Nat} {ps : List Score} (h : Row base 33 3 w (.slice A n d) (ps.map Score.lst)) {k : Nat} (hk : k < ps.length) :
    ∃ g, A = some ⟨g, 0, none⟩ ∧ base ≤ g ∧ w.cell? ⟨g, k * 3, none⟩ = some (.int .i64 ps[k].runner) ∧ w.cell? ⟨g, k * 3 + 1, none⟩ = some (.int .i64 ps[k].race) := by
  obtain ⟨g2, cap, he, hbg, hgl, hcap⟩ := h.form (by simp; omega)
  simp only [Value.slice.injEq, List.length_map] at he hcap
  obtain ⟨rfl, rfl, rfl⟩ := he
  have hrg := h.range (k := k) (by simpa using hk)
  simp only [List.getElem_map] at hrg
  exact ⟨g2, rfl, hbg, (Score.cells hrg).1, (Score.cells hrg).2.1⟩
set_option maxRecDepth 100000 in
set_option maxHeartbeats 8000000 in
theorem draw_NeededToLead (v0 : Value) (m : Nat) (w : World) (h : CodeS w v0 m) :
    Calls Try.prog 42 #[v0] w fun e w' => ∃ (r b : Int) (v : Value) (x y : Int) (ps : List Score), e = .returned (.tuple #[.int .i64 r, .int .i64 b, v, .int .i64 x, .int .i64 y]) ∧ NearI r ∧ NearI b ∧ NearI x ∧ NearI y ∧ DrewS w w' v ps := by
  obtain ⟨A, cap, rfl⟩ : ∃ A cap, v0 = .slice A m cap := by obtain ⟨A, cap, e, _⟩ := h; exact ⟨A, cap, e⟩
  obtain ⟨W0, hW0⟩ : ∃ W0, w.alloc (.cells #[.slice A m cap, .int .i64 0, .int .u64 0] 81) = W0 := ⟨_, rfl⟩
  have hcur : Cur w.heap.size W0 0 := by rw [← hW0]; exact Cur.new h w.heap.size rfl
  have HD := Lib.hid (Dr.start hcur)
  have hc1 : w.heap.size < W0.heap.size := by rw [← hW0]; simp
  have HBL := Lib.hid (show ∀ W : World, W0.grownBy W (some w.heap.size) → Below w.heap.size w W from fun W hg => by rw [← hW0] at hg; exact below_cur hg)
  have HW := Lib.hid (scores20_any w.heap.size 0 _ hcur (by omega))
  have HW0 := Lib.hid hW0
  clear h hcur hW0
  go_enter Try.func42, Try.ntmps42
  go_wp2_with fail
  rw [HW0.out]
  refine HW.out.mono ?_
  rintro e w' ⟨r, b, v, ps, rfl, hr1, hb1, hr, hl, hp, hc, hg⟩
  replace HD := Lib.hid (HD.out.step hc hg)
  have HR := Lib.hid hr
  have HP := Lib.hid hp
  clear HW hr hp hc hg
  go_wp2_with fail
  refine (runner20_any w.heap.size _ ps v W0 _ HD.out (by omega) HR.out hc1 hl HP.out).mono ?_
  rintro e w' ⟨x, rfl, hx, hr, hd, hg⟩
  replace HD := Lib.hid hd
  replace HR := Lib.hid hr
  clear hd hr hg
  go_wp2_with fail
  refine (pick_any w.heap.size _ (r + 1) _ HD.out.cur (by omega) (by omega)).mono ?_
  rintro e w' ⟨y, rfl, hy0, hy1, hc, hg⟩
  replace HR := Lib.hid (HR.out.keptC (by omega) hg)
  replace HD := Lib.hid (HD.out.step hc hg)
  have hy2 : y ≤ 21 := by omega
  clear hc hg hy1
  obtain ⟨R, hR⟩ : ∃ R : Nat, (R : Int) = max r 0 := ⟨(max r 0).toNat, by omega⟩
  go_wp2_with fail
  go_loopw [12, 13] (fun rv nv wr => ∃ (j : Nat) (y : Int), j ≤ R ∧ nv = .int .i64 (j + 1) ∧ rv = .int .i64 y ∧ 0 ≤ y ∧ y ≤ 100 ∧ Hid (Row W0.heap.size 33 3 wr v (ps.map Score.lst)) ∧ Hid (Dr w.heap.size W0 wr (600 + 2 * j)))
    (fun _ nv _ => R + 2 - (intOf nv).toNat)
  case atStart => exact ⟨0, 1 + y, by omega, rfl, rfl, by omega, by omega, HR.out, HD.out.mono (by omega)⟩
  case round =>
    clear HR HD hy0 hy2
    obtain ⟨j, y, hj, rfl, rfl, hy0, hy2, HR, HD⟩ := hrel
    obtain ⟨SA, sd, rfl, hd1, hd2⟩ := HR.out.parts
    simp only [List.length_map] at HR hd1 hd2 ⊢
    have hfin : ∀ W : World, Hid (Row W0.heap.size 33 3 W (.slice SA ps.length sd) (ps.map Score.lst)) → Hid (Dr w.heap.size W0 W 900) → DrewS w W (.slice SA ps.length sd) ps := fun W h1 h2 => ⟨Sl.of_flat h1.out, hl, HP.out, HBL.out _ h2.out.grown⟩
    have HF := Lib.hid hfin
    clear hfin
    by_cases hjr : (j : Int) + 1 ≤ r
    · skip
      go_wp2_with fail
      refine (one_dr 8 HD.out (by omega) (by omega)).mono ?_
      rintro e w' ⟨q, rfl, hd, hg⟩
      replace HD := Lib.hid hd
      replace HR := Lib.hid (HR.out.keptC (by omega) hg)
      clear hd hg
      cases q with
      | true =>
        have HFIN := Lib.hid (HF.out _ HR (Lib.hid (HD.out.mono (by omega))))
        clear HR HD HP HBL HF
        go_wp2_with fail
        refine bodyPost_ret (results_tmp5 rfl _ _ _) rfl ?_
        exact ⟨_, _, _, _, _, _, rfl, by omega, by omega, by omega, by omega, HFIN.out⟩
      | false =>
        go_wp2_with fail
        go_loopw [14, 15] (fun hv iv wr => ∃ (k : Nat) (q : Bool), k ≤ ps.length ∧ iv = .int .i64 k ∧ hv = .bool q ∧ Hid (Row W0.heap.size 33 3 wr (.slice SA ps.length sd) (ps.map Score.lst)) ∧ Hid (Dr w.heap.size W0 wr (602 + 2 * j)))
          (fun _ iv _ => ps.length - (intOf iv).toNat)
        case atStart => exact ⟨0, false, by omega, rfl, rfl, HR.out, HD.out.mono (by omega)⟩
        case round =>
          clear HR HD
          obtain ⟨k, q, hk, rfl, rfl, HR, HD⟩ := hrel
          by_cases hkl : k < ps.length
          · obtain ⟨g2, rfl, hbg, hc1', hc2'⟩ := Row.three HR.out hkl
            generalize ps[k] = p0 at *
            obtain ⟨b0, b1, b2⟩ := p0
            simp only at hc1' hc2'
            have hkk : (k : Int) < (ps.length : Int) := by omega
            cases q with
            | true =>
              go_wp2_with fail
              go_roundw
              case rel => exact ⟨k + 1, _, by omega, by go_num, rfl, HR.out, HD.out⟩
              case measure => simp [intOf]; omega
            | false =>
              by_cases hb0 : b0 = x
              · subst hb0
                go_wp2_with fail
                go_roundw
                case rel => exact ⟨k + 1, _, by omega, by go_num, rfl, HR.out, HD.out⟩
                case measure => simp [intOf]; omega
              · have hb0' : (b0 == x) = false := by simpa using hb0
                go_wp2_with fail
                go_roundw
                case rel => exact ⟨k + 1, _, by omega, by go_num, rfl, HR.out, HD.out⟩
                case measure => simp [intOf]; omega
          · have hkk : ¬ (k : Int) < (ps.length : Int) := by omega
            cases q <;> (
            go_wp2_with fail
            go_roundw
            case rel => exact ⟨j + 1, _, by omega, by go_num, rfl, by omega, by omega, HR.out, HD.out.mono (by omega)⟩
            case measure => simp [intOf]; omega)
    · have HFIN := Lib.hid (HF.out _ HR (Lib.hid (HD.out.mono (by omega))))
      clear HR HD HP HBL HF
      go_wp2_with fail
      refine bodyPost_ret (results_tmp5 rfl _ _ _) rfl ?_
      exact ⟨_, _, _, _, _, rfl, by omega, by omega, by omega, by omega, _, HFIN.out⟩
theorem CodeS.alloc {w : World} {v : Value} {m : Nat} (h : CodeS w v m) (o : Obj) : CodeS (w.alloc o) v m := h.below (below_alloc (Below.refl _ _) o)
set_option maxRecDepth 100000 in
set_option maxHeartbeats 8000000 in
theorem draw_AddScore (v0 : Value) (m : Nat) (w : World) (h : CodeS w v0 m) :
    Calls Try.prog 45 #[v0] w fun e w' => ∃ (r b : Int) (v : Value) (s0 s1 s2 : Int) (ps : List Score), e = .returned (.tuple #[.int .i64 r, .int .i64 b, v, .agg #[.int .i64 s0, .int .i64 s1, .int .i64 s2]]) ∧ NearI r ∧ NearI b ∧ DrawnS ⟨s0, s1, s2⟩ ∧ DrewS w w' v ps := by
  obtain ⟨A, cap, rfl⟩ : ∃ A cap, v0 = .slice A m cap := by obtain ⟨A, cap, e, _⟩ := h; exact ⟨A, cap, e⟩
  have h1 := h.alloc (.cells #[.int .i64 0, .int .i64 0, .int .i64 0] 33)
  obtain ⟨W0, hW0⟩ : ∃ W0, (w.alloc (.cells #[.int .i64 0, .int .i64 0, .int .i64 0] 33)).alloc (.cells #[.slice A m cap, .int .i64 0, .int .u64 0] 81) = W0 := ⟨_, rfl⟩
  have hcur : Cur (w.heap.size + 1) W0 0 := by rw [← hW0]; exact Cur.new h1 (w.heap.size + 1) (by simp)
  have HD := Lib.hid (Dr.start hcur)
  have hc1 : w.heap.size + 1 < W0.heap.size := by rw [← hW0]; simp
  have HT := Lib.hid (show LitAt W0 w.heap.size 33 [.int .i64 0, .int .i64 0, .int .i64 0] by rw [← hW0]; exact LitAt.alloc (LitAt.new w _ _ _ rfl) _)
  have HBL := Lib.hid (show ∀ W : World, W0.grownBy W (some (w.heap.size + 1)) → Below w.heap.size w W from fun W hg => by
    rw [← hW0] at hg
    have h2 := (below_alloc (below_alloc (Below.refl _ _) (.cells #[.int .i64 0, .int .i64 0, .int .i64 0] 33)) (.cells #[.slice A m cap, .int .i64 0, .int .u64 0] 81)).grown hg (by simp; omega) (fun k hk => by have := Option.some.inj hk; omega)
    exact h2)
  have HW := Lib.hid (scores20_any (w.heap.size + 1) 0 _ hcur (by omega))
  have HW0 := Lib.hid hW0
  clear h h1 hcur hW0
  go_enter Try.func45, Try.ntmps45
  go_wp2_with fail
  rw [HW0.out]
  refine HW.out.mono ?_
  rintro e w' ⟨r, b, v, ps, rfl, hr1, hb1, hr, hl, hp, hc, hg⟩
  replace HD := Lib.hid (HD.out.step hc hg)
  have HR := Lib.hid hr
  have HP := Lib.hid hp
  clear HW hr hp hc hg
  go_wp2_with fail
  refine (pick_dr 14 HD.out (by omega) (by omega) (by omega)).mono ?_
  rintro e w' ⟨y0, hy0, rfl, hd, hg⟩
  replace HD := Lib.hid hd
  replace HR := Lib.hid (HR.out.keptC (by omega) hg)
  clear hd hg
  go_wp2_with fail
  refine (pick_any (w.heap.size + 1) _ (r + 1) _ HD.out.cur (by omega) (by omega)).mono ?_
  rintro e w' ⟨y1, rfl, hy1, hy1', hc, hg⟩
  replace HR := Lib.hid (HR.out.keptC (by omega) hg)
  replace HD := Lib.hid (HD.out.step hc hg)
  have hy2 : y1 ≤ 21 := by omega
  clear hc hg hy1'
  go_wp2_with fail
  obtain ⟨gl, hgl, hcg⟩ : ∃ gl, w'.heap.size = gl ∧ w.heap.size + 1 < gl := ⟨_, rfl, by have := HD.out.size; omega⟩
  have HLIT := Lib.hid (LitAt.new w' 3 (([0, 95, 1000, 1001] : List Int).map (Value.int .i64)) w'.heap.size rfl)
  replace HD := Lib.hid (HD.out.alloc (.cells (([0, 95, 1000, 1001] : List Int).map (Value.int .i64)).toArray 3))
  replace HR := Lib.hid (HR.out.alloc (.cells (([0, 95, 1000, 1001] : List Int).map (Value.int .i64)).toArray 3))
  rw [hgl] at HLIT
  refine (pick_dr 24 HD.out (by omega) (by omega) (by omega)).mono ?_
  rintro e w' ⟨y, hy, rfl, hd, hg⟩
  replace HD := Lib.hid hd
  replace HR := Lib.hid (HR.out.keptC (by omega) hg)
  replace HLIT := Lib.hid (HLIT.out.keptC hcg hg)
  clear hd hg
  go_wp2_with fail
  refine (cut_dr ([0, 95, 1000, 1001] : List Int) (-500) 2000 HD.out gl _ _ HLIT.out rfl _ _ (by omega) (by simp; omega) (by omega) (by omega) (by omega) (by omega) (by simp) (by intro x hx; simp at hx; omega)).mono ?_
  rintro e w' ⟨z, rfl, hz, hd, hg⟩
  replace HD := Lib.hid hd
  replace HR := Lib.hid (HR.out.keptC (by omega) hg)
  clear hd hg HLIT hgl hcg
  have HTF := Lib.hid (HT.out.grown HD.out.grown (by simp))
  have HSF := Lib.hid (show ∀ a b c : Int, DrewS w (((w'.setCell ⟨w.heap.size, 0, none⟩ (.int .i64 a)).setCell ⟨w.heap.size, 1, none⟩ (.int .i64 b)).setCell ⟨w.heap.size, 2, none⟩ (.int .i64 c)) v ps from fun a b c => by
    have hne : v.ownBlock ≠ some w.heap.size := fun e => by have := (HR.out.lt _ e).1; omega
    exact ⟨Sl.of_flat (((HR.out.putNe_ hne _).putNe_ hne _).putNe_ hne _), hl, HP.out, (((HBL.out _ HD.out.grown).setCell (Nat.le_refl _) _).setCell (Nat.le_refl _) _).setCell (Nat.le_refl _) _⟩)
  have t0 := HTF.out.range 0 _ rfl
  have t1 := HTF.out.range 1 _ rfl
  have t2 := HTF.out.range 2 _ rfl
  have tf := HTF.out.frozen
  simp only [Nat.zero_add] at t0 t1 t2
  clear HR HD HP HBL HT
  go_wp2_with fail
  refine bodyPost_ret (v := .tuple #[.int .i64 r, .int .i64 b, v, .agg #[.int .i64 (1 + y0), .int .i64 (1 + y1), .int .i64 z]]) (by simp [results, Try.results45, go_sem, t0, t1, t2]) rfl ?_
  exact ⟨_, _, _, _, _, _, _, rfl, by omega, by omega, ⟨by simp only; omega, by simp only; omega, by simp only; omega⟩, HSF.out _ _ _⟩
end Go.Proofs.Ythhlfkeikcmnlaa
