/- The draws of an appeal, of one protest, and of protests that can be published. No condition. -/
import Derived.Test.YtabihggfnofcbaaDrPt
import Derived.Test.YtabihggfnofcbaaWith
namespace Go.Proofs.Ytabihggfnofcbaa
open Go Go.RowKit

set_option maxRecDepth 100000 in
set_option maxHeartbeats 4000000 in
theorem draw_AppealProtest (v0 : Value) (m : Nat) (w : World) (h : CodeS w v0 m) :
    Calls Try.prog 54 #[v0] w fun e w' => ∃ (v : Value) (ps : List Prot) (x y : Int), e = .returned (.tuple #[v, .int .i64 x, .int .i64 y]) ∧ NearI x ∧ NearI y ∧ DrewP w w' v ps := by
  obtain ⟨A, cap, rfl⟩ : ∃ A cap, v0 = .slice A m cap := by obtain ⟨A, cap, e, _⟩ := h; exact ⟨A, cap, e⟩
  obtain ⟨W0, hW0⟩ : ∃ W0, w.alloc (.cells #[.slice A m cap, .int .i64 0, .int .u64 0] 84) = W0 := ⟨_, rfl⟩
  have hcur : Cur w.heap.size W0 0 := by rw [← hW0]; exact Cur.new h w.heap.size rfl
  have HD := Lib.hid (Dr.start hcur)
  have hc1 : w.heap.size < W0.heap.size := by rw [← hW0]; simp
  have HBL := Lib.hid (show ∀ W : World, W0.grownBy W (some w.heap.size) → Below w.heap.size w W from fun W hg => by rw [← hW0] at hg; exact below_cur hg)
  have HW := Lib.hid (protests_any w.heap.size 0 _ hcur (by omega))
  have HW0 := Lib.hid hW0
  clear h hcur hW0
  go_enter Try.func54, Try.ntmps54
  go_wp2_with fail
  rw [HW0.out]
  refine HW.out.mono ?_
  rintro e w' ⟨v, ps, rfl, hr, hl, hp, hc, hg⟩
  replace HD := Lib.hid (HD.out.step hc hg)
  have HR := Lib.hid hr
  have HP := Lib.hid hp
  clear HW hr hp hc hg
  go_wp2_with fail
  refine (protestId_any w.heap.size _ W0.heap.size ps v _ W0 _ HD.out (by omega) HR.out hc1 hl HP.out).mono ?_
  rintro e w' ⟨x, rfl, hx, hr, hd, hg⟩
  replace HD := Lib.hid hd
  replace HR := Lib.hid hr
  clear hd hr hg
  go_wp2_with fail
  refine (among_dr [0, 900, 1000, 36000, -1, 36001] (-1) 36001 HD.out _ rfl _ _ rfl (by omega) _).mono ?_
  rintro e w' ⟨y, rfl, hy, hd, hg⟩
  replace HD := Lib.hid hd
  replace HR := Lib.hid (HR.out.keptC (by omega) hg)
  clear hd hg
  go_wp2_with fail
  refine (l22Find_any ps v x _ (sl_prots HR.out)).mono ?_
  rintro e w8 ⟨rfl, rfl⟩
  rcases find_cases ps x with ⟨-, he⟩ | ⟨k, hk, -, he⟩
  · rw [he]
    have HFIN := Lib.hid (show DrewP w w' v ps from ⟨sl_prots HR.out, hl, HP.out, HBL.out _ HD.out.grown⟩)
    go_wp2_with fail
    go_ret3
    exact ⟨_, _, _, _, rfl, by omega, by omega, HFIN.out⟩
  · rw [he]
    clear he
    have hk0 : (0 : Int) ≤ (k : Int) := by omega
    go_wp2_with fail
    refine (one_dr 4 HD.out (by omega) (by omega)).mono ?_
    rintro e w' ⟨b, rfl, hd, hg⟩
    replace HD := Lib.hid hd
    replace HR := Lib.hid (HR.out.keptC (by omega) hg)
    clear hd hg
    cases b with
    | true =>
      have HFIN := Lib.hid (show DrewP w w' v ps from ⟨sl_prots HR.out, hl, HP.out, HBL.out _ HD.out.grown⟩)
      clear HR HD HP HBL
      go_wp2_with fail
      go_ret3
      exact ⟨_, _, _, _, rfl, by omega, by omega, HFIN.out⟩
    | false =>
      obtain ⟨A2, d, rfl, hd1, hd2⟩ := HR.out.parts
      simp only [List.length_map] at HR hd1 ⊢
      obtain ⟨g, rfl, hg0, -⟩ := prot_at HR.out hk
      have HCEL := Lib.hid (show ∀ W : World, w'.drew.grownBy W (some w.heap.size) → W.cell? ⟨g, k * 6 + 3, none⟩ = some (.int .i64 ps[k].made) from fun W hg => by
        obtain ⟨g', e, _, hr⟩ := prot_at (HR.out.drew.keptC hc1 hg) hk
        simp only [Option.some.injEq, Addr.mk.injEq, and_true] at e
        subst e
        exact (Prot.cells hr).2.2.2.1)
      have HMD := Lib.hid (HP.out _ (List.getElem_mem hk)).2.2.2.1
      generalize ps[k].made = md at HCEL HMD
      have HDD := Lib.hid HD.out.drew
      have hcel0 : w'.cell? ⟨g, k * 6 + 3, none⟩ = some (.int .i64 md) := HCEL.out w'.drew (World.grownBy.refl _ _)
      have hcelA : (w'.alloc (.cells #[.int .i64 0, .int .i64 10, .int .i64 900, .int .i64 901, .int .i64 (-1)] 3)).cell? ⟨g, k * 6 + 3, none⟩ = some (.int .i64 md) := After.keep hcel0 ⟨_, below_alloc (Below.refl _ _) _⟩
      have HDR := Lib.hid HR.out
      go_wp2
      go_region_law (first
        | (go_simp; go_at_call 87; refine (among_dr [0, 10, 900, 901, -1] (-1) 901 HDD.out _ rfl _ _ rfl (by omega) _).mono ?_; rintro e w9 ⟨z, rfl, hz, hd9, hg9⟩; have hcel9 := HCEL.out w9 hg9))
      all_goals
        have HFIN := Lib.hid (show DrewP w w9 (.slice (some ⟨g, 0, none⟩) ps.length d) ps from ⟨sl_prots (HDR.out.drew.keptC hc1 hg9), hl, HP.out, HBL.out _ hd9.grown⟩)
        obtain ⟨hm1, hm2⟩ := HMD.out
        clear hd9 hg9
        go_wp2
        go_ret3
        exact ⟨_, _, _, _, rfl, by omega, by omega, HFIN.out⟩
set_option maxRecDepth 100000 in
set_option maxHeartbeats 4000000 in
theorem draw_CanPublish (v0 : Value) (m : Nat) (w : World) (h : CodeS w v0 m) :
    Calls Try.prog 55 #[v0] w fun e w' => ∃ (v : Value) (ps : List Prot) (x : Int), e = .returned (.tuple #[v, .int .i64 x]) ∧ NearI x ∧ DrewP w w' v ps := by
  obtain ⟨A, cap, rfl⟩ : ∃ A cap, v0 = .slice A m cap := by obtain ⟨A, cap, e, _⟩ := h; exact ⟨A, cap, e⟩
  obtain ⟨W0, hW0⟩ : ∃ W0, w.alloc (.cells #[.slice A m cap, .int .i64 0, .int .u64 0] 84) = W0 := ⟨_, rfl⟩
  have hcur : Cur w.heap.size W0 0 := by rw [← hW0]; exact Cur.new h w.heap.size rfl
  have HD := Lib.hid (Dr.start hcur)
  have hc1 : w.heap.size < W0.heap.size := by rw [← hW0]; simp
  have HBL := Lib.hid (show ∀ W : World, W0.grownBy W (some w.heap.size) → Below w.heap.size w W from fun W hg => by rw [← hW0] at hg; exact below_cur hg)
  have HW := Lib.hid (protests_any w.heap.size 0 _ hcur (by omega))
  have HW0 := Lib.hid hW0
  clear h hcur hW0
  go_enter Try.func55, Try.ntmps55
  go_wp2_with fail
  rw [HW0.out]
  refine HW.out.mono ?_
  rintro e w' ⟨v, ps, rfl, hr, hl, hp, hc, hg⟩
  replace HD := Lib.hid (HD.out.step hc hg)
  have HR := Lib.hid hr
  have HP := Lib.hid hp
  clear HW hr hp hc hg
  go_wp2_with fail
  refine (one_dr 2 HD.out (by omega) (by omega)).mono ?_
  rintro e w' ⟨b, rfl, hd, hg⟩
  replace HD := Lib.hid hd
  replace HR := Lib.hid (HR.out.keptC (by omega) hg)
  clear hd hg
  cases b with
  | false =>
    go_wp2_with fail
    obtain ⟨gl, hgl, hcg⟩ : ∃ gl, w'.heap.size = gl ∧ w.heap.size < gl := ⟨_, rfl, by have := HD.out.size; omega⟩
    have HLIT := Lib.hid (LitAt.new w' 3 (([0,900,1001,5000,36000,-1,36001] : List Int).map (Value.int .i64)) w'.heap.size rfl)
    replace HD := Lib.hid (HD.out.alloc (.cells (([0,900,1001,5000,36000,-1,36001] : List Int).map (Value.int .i64)).toArray 3))
    replace HR := Lib.hid (HR.out.alloc (.cells (([0,900,1001,5000,36000,-1,36001] : List Int).map (Value.int .i64)).toArray 3))
    rw [hgl] at HLIT
    refine (pick_dr 24 HD.out (by omega) (by omega) (by omega)).mono ?_
    rintro e w' ⟨y, hy, rfl, hd, hg⟩
    replace HD := Lib.hid hd
    replace HR := Lib.hid (HR.out.keptC (by omega) hg)
    replace HLIT := Lib.hid (HLIT.out.keptC hcg hg)
    clear hd hg
    go_wp2_with fail
    refine (cut_dr ([0,900,1001,5000,36000,-1,36001] : List Int) (-100000) 100000 HD.out gl _ _ HLIT.out rfl _ _ (by omega) (by simp; omega) (by omega) (by omega) (by omega) (by omega)).mono ?_
    rintro e w' ⟨x1, rfl, hx1, hd, hg⟩
    replace HD := Lib.hid hd
    replace HR := Lib.hid (HR.out.keptC (by omega) hg)
    clear hd hg HLIT hgl hcg
    have HFIN := Lib.hid (show DrewP w w' v ps from ⟨sl_prots HR.out, hl, HP.out, HBL.out _ HD.out.grown⟩)
    clear HR HD HP HBL
    go_wp2_with fail
    go_ret2
    exact ⟨_, _, _, rfl, by omega, HFIN.out⟩
  | true =>
    obtain ⟨A2, d, rfl, hd1, hd2⟩ := HR.out.parts
    simp only [List.length_map] at HR hd1 ⊢
    obtain ⟨n0, hn0⟩ : ∃ n0, ps.length = n0 := ⟨_, rfl⟩
    rw [hn0] at HR hd1 hl ⊢
    have HN := Lib.hid hn0
    clear hn0
    go_wp2_with fail
    go_loopw [6] (fun iv wr => ∃ (k : Nat) (qs : List Prot), k ≤ n0 ∧ iv = .int .i64 k ∧ Hid (qs.length = n0) ∧ Hid (∀ p ∈ qs, DrawnPr p) ∧ Hid (Row W0.heap.size 25 6 wr (.slice A2 n0 d) (qs.map Prot.lst)) ∧ Hid (Dr w.heap.size W0 wr 600))
      (fun iv _ => n0 - (intOf iv).toNat)
    case atStart => exact ⟨0, ps, Nat.zero_le _, rfl, HN.out, HP.out, HR.out, HD.out.mono (by omega)⟩
    case round =>
      clear HN HP HR HD
      obtain ⟨k, qs, hk, rfl, HN, HP, HR, HD⟩ := hrel
      by_cases hlt : k < n0
      · have hlq : k < qs.length := by rw [HN.out]; exact hlt
        have HR2 := Lib.hid (show Row W0.heap.size 25 6 wr (.slice A2 qs.length d) (qs.map Prot.lst) from by rw [HN.out]; exact HR.out)
        obtain ⟨g, rfl, hg0, hrg⟩ := prot_at HR2.out hlq
        have HPK := Lib.hid (HP.out _ (List.getElem_mem hlq))
        generalize hpk : qs[k] = pk at hrg HPK
        clear hpk
        obtain ⟨b0, b1, b2, b3, b4, b5⟩ := pk
        have HRA := Lib.hid (HR.out.alloc (.cells #[.int .i64 b0, .int .i64 b1, .int .i64 b2, .int .i64 b3, .int .i64 3, .int .i64 0] 25))
        have HDA := Lib.hid (HD.out.alloc (.cells #[.int .i64 b0, .int .i64 b1, .int .i64 b2, .int .i64 b3, .int .i64 3, .int .i64 0] 25))
        have HLM := Lib.hid (show k < (qs.map Prot.lst).length by simpa using hlq)
        go_wp2_with (first
          | ((with_reducible refine at_load_ (w := wr) 25 ?_); refine Prot.loadImpl rfl _ rfl g (k * 6) rfl ⟨b0, b1, b2, b3, b4, b5⟩ hrg ?_)
          | ((with_reducible refine at_store_ (w := wr.alloc (.cells #[.int .i64 b0, .int .i64 b1, .int .i64 b2, .int .i64 b3, .int .i64 3, .int .i64 0] 25)) 25 ?_); refine tyProt.store rfl _ _ rfl W0.heap.size g n0 d k (k * 6) _ [.int .i64 b0, .int .i64 b1, .int .i64 b2, .int .i64 b3, .int .i64 3, .int .i64 0] HRA.out HLM.out rfl rfl rfl rfl (by simp [Value.oneCell']) ?_; intro w9 hrow9 hg9))
        have HN2 := Lib.hid (show (qs.set k ⟨b0, b1, b2, b3, 3, 0⟩).length = n0 by simpa using HN.out)
        have HP2 := Lib.hid (show ∀ p ∈ qs.set k ⟨b0, b1, b2, b3, 3, 0⟩, DrawnPr p from fun p hp => by
          rcases List.mem_or_eq_of_mem_set hp with hp | rfl
          · exact HP.out p hp
          · have := HPK.out; exact ⟨this.1, this.2.1, this.2.2.1, this.2.2.2.1, by simp only; omega, by simp only; omega⟩)
        have HR9 := Lib.hid (show Row W0.heap.size 25 6 w9 (.slice (some ⟨g, 0, none⟩) n0 d) ((qs.set k ⟨b0, b1, b2, b3, 3, 0⟩).map Prot.lst) from by rw [List.map_set]; exact hrow9)
        have HD9 := Lib.hid (HDA.out.own hc1 hg9 (fun g' e => by have := Option.some.inj e; omega))
        clear hrow9 hg9
        go_roundw
        case rel => exact ⟨k + 1, _, by omega, by go_num, HN2.out, HP2.out, HR9.out, HD9.out⟩
        case measure => simp [intOf]; omega
      · obtain rfl : k = n0 := by omega
        have hl2 : qs.length ≤ 12 := by rw [HN.out]; exact hl
        obtain ⟨w', hw'⟩ : ∃ w', wr = w' := ⟨_, rfl⟩
        subst hw'
        generalize wr = w' at *
        go_wp2_with fail
        obtain ⟨gl, hgl, hcg⟩ : ∃ gl, w'.heap.size = gl ∧ w.heap.size < gl := ⟨_, rfl, by have := HD.out.size; omega⟩
        have HLIT := Lib.hid (LitAt.new w' 3 (([0,900,1001,5000,36000,-1,36001] : List Int).map (Value.int .i64)) w'.heap.size rfl)
        replace HD := Lib.hid (HD.out.alloc (.cells (([0,900,1001,5000,36000,-1,36001] : List Int).map (Value.int .i64)).toArray 3))
        replace HR := Lib.hid (HR.out.alloc (.cells (([0,900,1001,5000,36000,-1,36001] : List Int).map (Value.int .i64)).toArray 3))
        rw [hgl] at HLIT
        refine (pick_dr 24 HD.out (by omega) (by omega) (by omega)).mono ?_
        rintro e w' ⟨y, hy, rfl, hd, hg⟩
        replace HD := Lib.hid hd
        replace HR := Lib.hid (HR.out.keptC (by omega) hg)
        replace HLIT := Lib.hid (HLIT.out.keptC hcg hg)
        clear hd hg
        go_wp2_with fail
        refine (cut_dr ([0,900,1001,5000,36000,-1,36001] : List Int) (-100000) 100000 HD.out gl _ _ HLIT.out rfl _ _ (by omega) (by simp; omega) (by omega) (by omega) (by omega) (by omega)).mono ?_
        rintro e w' ⟨x1, rfl, hx1, hd, hg⟩
        replace HD := Lib.hid hd
        replace HR := Lib.hid (HR.out.keptC (by omega) hg)
        clear hd hg HLIT hgl hcg
        have HFIN := Lib.hid (show DrewP w w' (.slice A2 k d) qs from ⟨sl_prots HR.out, hl2, HP.out, HBL.out _ HD.out.grown⟩)
        clear HR HD HP HBL
        go_wp2_with fail
        go_ret2
        exact ⟨_, _, _, rfl, by omega, HFIN.out⟩
set_option maxRecDepth 100000 in
set_option maxHeartbeats 4000000 in
theorem draw_IsProtest (v0 : Value) (m : Nat) (w : World) (h : CodeS w v0 m) :
    Calls Try.prog 59 #[v0] w fun e w' => ∃ p : Prot, e = .returned p.val ∧ DrawnPr p ∧ Below w.heap.size w w' := by
  obtain ⟨W1, hW1⟩ : ∃ W1, w.alloc (.cells #[.int .i64 0, .int .i64 0, .int .i64 0, .int .i64 0, .int .i64 0, .int .i64 0] 25) = W1 := ⟨_, rfl⟩
  have hb1 : Below w.heap.size w W1 := by rw [← hW1]; exact below_alloc (Below.refl _ _) _
  have hsz1 : W1.heap.size = w.heap.size + 1 := by rw [← hW1]; simp
  have HZ := Lib.hid (show LitAt W1 w.heap.size 25 z6 from by rw [← hW1]; exact LitAt.new w 25 z6 w.heap.size rfl)
  replace h := h.below hb1
  obtain ⟨A, cap, rfl⟩ : ∃ A cap, v0 = .slice A m cap := by obtain ⟨A, cap, e, _⟩ := h; exact ⟨A, cap, e⟩
  obtain ⟨W0, hW0⟩ : ∃ W0, W1.alloc (.cells #[.slice A m cap, .int .i64 0, .int .u64 0] 84) = W0 := ⟨_, rfl⟩
  have hcur : Cur (w.heap.size + 1) W0 0 := by rw [← hW0, ← hsz1]; exact Cur.new h W1.heap.size rfl
  have HD := Lib.hid (Dr.start hcur)
  replace HZ := Lib.hid (show LitAt W0 w.heap.size 25 z6 from by rw [← hW0]; exact HZ.out.alloc _)
  have HBL := Lib.hid (show ∀ W : World, W0.grownBy W (some (w.heap.size + 1)) → Below w.heap.size w W from fun W hg => by rw [← hW0, ← hsz1] at hg; exact step_ hb1 (Nat.le_refl _) (below_cur hg))
  have HW0 := Lib.hid (show (w.alloc (.cells #[.int .i64 0, .int .i64 0, .int .i64 0, .int .i64 0, .int .i64 0, .int .i64 0] 25)).alloc (.cells #[.slice A m cap, .int .i64 0, .int .u64 0] 84) = W0 from by rw [hW1, hW0])
  clear h hcur hW0 hW1 hb1 hsz1
  go_enter Try.func59, Try.ntmps59
  go_wp2_with fail
  rw [HW0.out]
  refine (among_dr [1, 42, 99] 1 99 HD.out _ rfl _ _ rfl (by omega) _ (by rw [← HW0.out]; simp)).mono ?_
  rintro e w' ⟨x1, rfl, hx1, hd, hg⟩
  replace HD := Lib.hid hd
  replace HZ := Lib.hid (HZ.out.grown hg (by intro e; have := Option.some.inj e; omega))
  clear hd hg
  go_wp2_with fail
  refine (among_dr [0, 500, 36000] 0 36000 HD.out _ rfl _ _ rfl (by omega) _).mono ?_
  rintro e w' ⟨x2, rfl, hx2, hd, hg⟩
  replace HD := Lib.hid hd
  replace HZ := Lib.hid (HZ.out.grown hg (by intro e; have := Option.some.inj e; omega))
  clear hd hg
  go_wp2_with fail
  refine (protest_dr HD.out _ _ (by omega) (by omega) (by omega)).mono ?_
  rintro e w' ⟨b0, b1, b2, b3, b4, b5, rfl, hb, hd, hg⟩
  replace HD := Lib.hid hd
  replace HZ := Lib.hid (HZ.out.grown hg (by intro e; have := Option.some.inj e; omega))
  have hz := HZ.out.range
  have hf := HZ.out.frozen
  have y0 := hz 0 _ rfl
  have y1 := hz 1 _ rfl
  have y2 := hz 2 _ rfl
  have y3 := hz 3 _ rfl
  have y4 := hz 4 _ rfl
  have y5 := hz 5 _ rfl
  simp only [Nat.zero_mul, Nat.zero_add, Nat.add_zero] at y0 y1 y2 y3 y4 y5
  clear hd hg
  have HB := Lib.hid (And.intro hb (HBL.out _ HD.out.grown))
  have hsz := HZ.out.lt
  clear hb
  go_wp2_with fail
  refine bodyPost_ret (v := .agg #[.int .i64 b0, .int .i64 b1, .int .i64 b2, .int .i64 b3, .int .i64 b4, .int .i64 b5]) (by simp [results, Try.results59, go_sem, y0, y1, y2, y3, y4, y5]) rfl ⟨⟨b0, b1, b2, b3, b4, b5⟩, rfl, HB.out.1, ?_⟩
  have hfin := HB.out.2
  repeat (first | (with_reducible exact hfin) | (with_reducible refine Below.setCell ?_ (by simp <;> omega) _))
end Go.Proofs.Ytabihggfnofcbaa
