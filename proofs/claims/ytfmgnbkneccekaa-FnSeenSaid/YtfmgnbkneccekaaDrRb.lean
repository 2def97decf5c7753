/- The draws of races, and of a race with an entrant or a step. No condition. -/
import Derived.Test.YtfmgnbkneccekaaDrRa
namespace Go.Proofs.Ytfmgnbkneccekaa
open Go Go.RowKit

/-- What the draws of races give. -/
def DrewR (w w' : World) (p : Race) : Prop := RaceR w.heap.size w' p ∧ p.zs.length ≤ 8 ∧ Below w.heap.size w w'
theorem quo8 {y : Nat} (hy : (y : Int) < 9) : ∃ z : Nat, (y : Int).tdiv 8 = (z : Int) ∧ z ≤ 1 := ⟨y / 8, rfl, by omega⟩
theorem wrap_nat {z : Nat} (h : z ≤ 1000) : IntKind.i64.wrap (z : Int) = (z : Int) := by rw [IntKind.wrap_i64]; omega
theorem wrap_sub {x z : Nat} (hx : x ≤ 1000) (hz : z ≤ 1000) : IntKind.i64.wrap ((x : Int) - (z : Int)) = (x : Int) - (z : Int) := by rw [IntKind.wrap_i64]; omega
theorem RaceR.set3 {base z : Nat} {w : World} {p : Race} (h : RaceR base w p) (hz : z < base) (u0 u1 u2 : Value) : RaceR base (((w.setCell ⟨z, 0, none⟩ u0).setCell ⟨z, 1, none⟩ u1).setCell ⟨z, 2, none⟩ u2) p := ((h.setOther hz _).setOther hz _).setOther hz _
theorem Below.set3 {n z : Nat} {w w1 : World} (h : Below n w w1) (hz : n ≤ z) (u0 u1 u2 : Value) : Below n w (((w1.setCell ⟨z, 0, none⟩ u0).setCell ⟨z, 1, none⟩ u1).setCell ⟨z, 2, none⟩ u2) := ((h.setCell hz _).setCell hz _).setCell hz _
theorem Dr.below2 {c n : Nat} {w w0 w1 : World} (h : Dr c w0 w1 n) (hb : Below w.heap.size w w0) (hc : w.heap.size ≤ c) : Below w.heap.size w w1 := hb.grown h.grown hb.size (fun k e => by have := Option.some.inj e; omega)
set_option maxRecDepth 100000 in
set_option maxHeartbeats 4000000 in
theorem draw_IsRace (v0 : Value) (m : Nat) (w : World) (h : CodeS w v0 m) :
    Calls Try.prog 80 #[v0] w fun e w' => ∃ p : Race, e = .returned (.agg #[.int .i64 p.clock, .bool p.closed, .slice p.a p.n p.c]) ∧ DrewR w w' p := by
  obtain ⟨A, cap, rfl⟩ : ∃ A cap, v0 = .slice A m cap := by obtain ⟨A, cap, e, _⟩ := h; exact ⟨A, cap, e⟩
  have h1 := h.below (below_alloc (Below.refl _ _) (.cells #[.int .i64 0, .bool false, .slice none 0 0] 24))
  obtain ⟨W0, hW0⟩ : ∃ W0, (w.alloc (.cells #[.int .i64 0, .bool false, .slice none 0 0] 24)).alloc (.cells #[.slice A m cap, .int .i64 0, .int .u64 0] 107) = W0 := ⟨_, rfl⟩
  have hcur : Cur (w.heap.size + 1) W0 0 := by rw [← hW0]; exact Cur.new h1 (w.heap.size + 1) (by simp)
  have hs0 : W0.heap.size = w.heap.size + 2 := by rw [← hW0]; simp
  have HB0 := Lib.hid (show Below w.heap.size w W0 by rw [← hW0]; exact below_alloc (below_alloc (Below.refl _ _) _) _)
  have HZ := Lib.hid (show LitAt W0 w.heap.size 24 zRace by rw [← hW0]; exact LitAt.alloc (LitAt.new _ _ _ _ rfl) _)
  have HC := Lib.hid (race_any (w.heap.size + 1) 0 W0 hcur (by omega))
  have HW0 := Lib.hid hW0
  clear h h1 hcur hW0
  go_enter Try.func80, Try.ntmps80
  go_wp2_with fail
  rw [HW0.out]
  refine HC.out.mono ?_
  rintro e w1 ⟨p, rfl, hr, hl, hd⟩
  replace HZ := Lib.hid (HZ.out.grown hd.grown (by intro e; simp at e))
  have HR := Lib.hid hr
  have HD := Lib.hid hd
  have hg1 : w.heap.size + 2 ≤ w1.heap.size := by have := hd.size; omega
  clear hr hd HC
  have hz := HZ.out.range
  have y0 := hz 0 _ rfl
  have y1 := hz 1 _ rfl
  have y2 := hz 2 _ rfl
  have yf := HZ.out.frozen
  simp only [Nat.zero_add] at y0 y1 y2
  go_wp2_with fail
  refine bodyPost_ret (v := .agg #[.int .i64 p.clock, .bool p.closed, .slice p.a p.n p.c]) (by simp [results, Try.results80, go_sem, y0, y1, y2]) rfl ⟨p, rfl, ?_, hl, ?_⟩
  · exact RaceR.mono (RaceR.set3 HR.out (by omega) _ _ _) (by omega)
  · exact Below.set3 (HD.out.below2 HB0.out (by omega)) (Nat.le_refl _) _ _ _
set_option maxRecDepth 100000 in
set_option maxHeartbeats 4000000 in
theorem draw_RunsOf (v0 : Value) (m : Nat) (w : World) (h : CodeS w v0 m) :
    Calls Try.prog 46 #[v0] w fun e w' => ∃ p : Race, e = .returned (.agg #[.int .i64 p.clock, .bool p.closed, .slice p.a p.n p.c]) ∧ DrewR w w' p := by
  have HC := Lib.hid (draw_IsRace v0 m _ (h.below (below_alloc (Below.refl _ _) (.cells #[.int .i64 0, .bool false, .slice none 0 0] 24))))
  have HZ := Lib.hid (show LitAt (w.alloc (.cells #[.int .i64 0, .bool false, .slice none 0 0] 24)) w.heap.size 24 zRace from LitAt.new _ _ _ _ rfl)
  clear h
  go_enter Try.func46, Try.ntmps46
  go_wp2_with fail
  refine HC.out.mono ?_
  rintro e w1 ⟨p, rfl, hr, hl, hb⟩
  replace HZ := Lib.hid (HZ.out.below hb)
  have HR := Lib.hid hr
  have HB := Lib.hid (step_ (below_alloc (Below.refl w.heap.size w) (.cells #[.int .i64 0, .bool false, .slice none 0 0] 24)) (Nat.le_refl _) hb)
  clear hr hb HC
  have hz := HZ.out.range
  have y0 := hz 0 _ rfl
  have y1 := hz 1 _ rfl
  have y2 := hz 2 _ rfl
  have yf := HZ.out.frozen
  simp only [Nat.zero_add] at y0 y1 y2
  go_wp2_with fail
  refine bodyPost_ret (v := .agg #[.int .i64 p.clock, .bool p.closed, .slice p.a p.n p.c]) (by simp [results, Try.results46, go_sem, y0, y1, y2]) rfl ⟨p, rfl, ?_, hl, ?_⟩
  · exact RaceR.mono (RaceR.set3 HR.out (by simp) _ _ _) (by simp)
  · exact Below.set3 HB.out (Nat.le_refl _) _ _ _
set_option maxRecDepth 100000 in
set_option maxHeartbeats 4000000 in
theorem draw_StateCounts (v0 : Value) (m : Nat) (w : World) (h : CodeS w v0 m) :
    Calls Try.prog 50 #[v0] w fun e w' => ∃ p : Race, e = .returned (.agg #[.int .i64 p.clock, .bool p.closed, .slice p.a p.n p.c]) ∧ DrewR w w' p := by
  have HC := Lib.hid (draw_IsRace v0 m _ (h.below (below_alloc (Below.refl _ _) (.cells #[.int .i64 0, .bool false, .slice none 0 0] 24))))
  have HZ := Lib.hid (show LitAt (w.alloc (.cells #[.int .i64 0, .bool false, .slice none 0 0] 24)) w.heap.size 24 zRace from LitAt.new _ _ _ _ rfl)
  clear h
  go_enter Try.func50, Try.ntmps50
  go_wp2_with fail
  refine HC.out.mono ?_
  rintro e w1 ⟨p, rfl, hr, hl, hb⟩
  replace HZ := Lib.hid (HZ.out.below hb)
  have HR := Lib.hid hr
  have HB := Lib.hid (step_ (below_alloc (Below.refl w.heap.size w) (.cells #[.int .i64 0, .bool false, .slice none 0 0] 24)) (Nat.le_refl _) hb)
  clear hr hb HC
  have hz := HZ.out.range
  have y0 := hz 0 _ rfl
  have y1 := hz 1 _ rfl
  have y2 := hz 2 _ rfl
  have yf := HZ.out.frozen
  simp only [Nat.zero_add] at y0 y1 y2
  go_wp2_with fail
  refine bodyPost_ret (v := .agg #[.int .i64 p.clock, .bool p.closed, .slice p.a p.n p.c]) (by simp [results, Try.results50, go_sem, y0, y1, y2]) rfl ⟨p, rfl, ?_, hl, ?_⟩
  · exact RaceR.mono (RaceR.set3 HR.out (by simp) _ _ _) (by simp)
  · exact Below.set3 HB.out (Nat.le_refl _) _ _ _
set_option maxRecDepth 100000 in
set_option maxHeartbeats 4000000 in
theorem draw_StillOut (v0 : Value) (m : Nat) (w : World) (h : CodeS w v0 m) :
    Calls Try.prog 53 #[v0] w fun e w' => ∃ p : Race, e = .returned (.agg #[.int .i64 p.clock, .bool p.closed, .slice p.a p.n p.c]) ∧ DrewR w w' p := by
  have HC := Lib.hid (draw_IsRace v0 m _ (h.below (below_alloc (Below.refl _ _) (.cells #[.int .i64 0, .bool false, .slice none 0 0] 24))))
  have HZ := Lib.hid (show LitAt (w.alloc (.cells #[.int .i64 0, .bool false, .slice none 0 0] 24)) w.heap.size 24 zRace from LitAt.new _ _ _ _ rfl)
  clear h
  go_enter Try.func53, Try.ntmps53
  go_wp2_with fail
  refine HC.out.mono ?_
  rintro e w1 ⟨p, rfl, hr, hl, hb⟩
  replace HZ := Lib.hid (HZ.out.below hb)
  have HR := Lib.hid hr
  have HB := Lib.hid (step_ (below_alloc (Below.refl w.heap.size w) (.cells #[.int .i64 0, .bool false, .slice none 0 0] 24)) (Nat.le_refl _) hb)
  clear hr hb HC
  have hz := HZ.out.range
  have y0 := hz 0 _ rfl
  have y1 := hz 1 _ rfl
  have y2 := hz 2 _ rfl
  have yf := HZ.out.frozen
  simp only [Nat.zero_add] at y0 y1 y2
  go_wp2_with fail
  refine bodyPost_ret (v := .agg #[.int .i64 p.clock, .bool p.closed, .slice p.a p.n p.c]) (by simp [results, Try.results53, go_sem, y0, y1, y2]) rfl ⟨p, rfl, ?_, hl, ?_⟩
  · exact RaceR.mono (RaceR.set3 HR.out (by simp) _ _ _) (by simp)
  · exact Below.set3 HB.out (Nat.le_refl _) _ _ _
set_option maxRecDepth 100000 in
set_option maxHeartbeats 4000000 in
theorem draw_LastSeen (v0 : Value) (m : Nat) (w : World) (h : CodeS w v0 m) :
    Calls Try.prog 49 #[v0] w fun e w' => ∃ (p : Race) (j : Int), e = .returned (.tuple #[.agg #[.int .i64 p.clock, .bool p.closed, .slice p.a p.n p.c], .int .i64 j]) ∧ (-1 ≤ j ∧ j ≤ 8) ∧ DrewR w w' p := by
  obtain ⟨A, cap, rfl⟩ : ∃ A cap, v0 = .slice A m cap := by obtain ⟨A, cap, e, _⟩ := h; exact ⟨A, cap, e⟩
  have h1 := h.below (below_alloc (Below.refl _ _) (.cells #[.int .i64 0, .bool false, .slice none 0 0] 24))
  obtain ⟨W0, hW0⟩ : ∃ W0, (w.alloc (.cells #[.int .i64 0, .bool false, .slice none 0 0] 24)).alloc (.cells #[.slice A m cap, .int .i64 0, .int .u64 0] 107) = W0 := ⟨_, rfl⟩
  have hcur : Cur (w.heap.size + 1) W0 0 := by rw [← hW0]; exact Cur.new h1 (w.heap.size + 1) (by simp)
  have hs0 : W0.heap.size = w.heap.size + 2 := by rw [← hW0]; simp
  have HB0 := Lib.hid (show Below w.heap.size w W0 by rw [← hW0]; exact below_alloc (below_alloc (Below.refl _ _) _) _)
  have HZ := Lib.hid (show LitAt W0 w.heap.size 24 zRace by rw [← hW0]; exact LitAt.alloc (LitAt.new _ _ _ _ rfl) _)
  have HC := Lib.hid (race_any (w.heap.size + 1) 0 W0 hcur (by omega))
  have HW0 := Lib.hid hW0
  clear h h1 hcur hW0
  go_enter Try.func49, Try.ntmps49
  go_wp2_with fail
  rw [HW0.out]
  refine HC.out.mono ?_
  rintro e w1 ⟨p, rfl, hr, hl, hd⟩
  replace HZ := Lib.hid (HZ.out.grown hd.grown (by intro e; simp at e))
  have HR := Lib.hid hr
  have HD := Lib.hid hd
  have hg1 : w.heap.size + 2 ≤ w1.heap.size := by have := hd.size; omega
  clear hr hd HC
  have hpn := (RaceR.s HR.out).len
  obtain ⟨cl, cd, PA, n, d, zs⟩ := p
  simp only at hpn hl
  subst hpn
  have HP := Lib.hid (show LitAt (w1.alloc (.cells #[.int .i64 cl, .bool cd, .slice PA zs.length d] 24)) w1.heap.size 24 [.int .i64 cl, .bool cd, .slice PA zs.length d] from LitAt.new _ _ _ _ rfl)
  replace HZ := Lib.hid (HZ.out.alloc (.cells #[.int .i64 cl, .bool cd, .slice PA zs.length d] 24))
  replace HR := Lib.hid (RaceR.below HR.out (below_alloc (Below.refl _ _) (.cells #[.int .i64 cl, .bool cd, .slice PA zs.length d] 24)))
  replace HD := Lib.hid (HD.out.alloc (.cells #[.int .i64 cl, .bool cd, .slice PA zs.length d] 24))
  go_upto_region 3 with fail
  have hwg : w1.heap.size < (w1.alloc (.cells #[.int .i64 cl, .bool cd, .slice PA zs.length d] 24)).heap.size := HP.out.lt
  generalize (w1.alloc (.cells #[.int .i64 cl, .bool cd, .slice PA zs.length d] 24)) = W2 at *
  have HH := Lib.hid (show ∀ W, LitAt W w1.heap.size 24 [.int .i64 cl, .bool cd, .slice PA zs.length d] → W.cell? ⟨w1.heap.size, 0, none⟩ = some (.int .i64 cl) ∧ W.cell? ⟨w1.heap.size, 1, none⟩ = some (.bool cd) ∧ W.cell? ⟨w1.heap.size, 2, none⟩ = some (.slice PA zs.length d) from fun W hW => by
    have r := hW.range
    have b0 := r 0 _ rfl
    have b1 := r 1 _ rfl
    have b2 := r 2 _ rfl
    simp only [Nat.zero_add] at b0 b1 b2
    exact ⟨b0, b1, b2⟩)
  have HP0 := Lib.hid (HP.out.below (Below.refl _ _).drew)
  have HD0 := Lib.hid HD.out.drew
  have HZ0 := Lib.hid (HZ.out.below (Below.refl _ _).drew)
  have HR0 := Lib.hid (RaceR.below HR.out (Below.refl _ _).drew)
  clear HP HD HZ HR
  have hwr : IntKind.i64.wrap ((zs.length : Int) + 1) = (zs.length : Int) + 1 := by rw [IntKind.wrap_i64]; omega
  go_region_held3 (fun w' => w'.cell? ⟨w1.heap.size, 0, none⟩ = some (.int .i64 cl) ∧ w'.cell? ⟨w1.heap.size, 1, none⟩ = some (.bool cd) ∧ w'.cell? ⟨w1.heap.size, 2, none⟩ = some (.slice PA zs.length d)) (exact HH.out _ (by first | (with_reducible exact HP0.out) | (with_reducible exact HP1.out) | (with_reducible exact HP2.out) | (with_reducible exact HP3.out)))
    (first
      | (go_at_call 84; have _h1 := HD1.out; refine (pick_dr 9 HD1.out (by omega) (by omega) (by omega)).mono ?_; rintro e v2 ⟨y, hy, rfl, hd, hg⟩; have HD2 := Lib.hid hd; have HP2 := Lib.hid (HP1.out.keptC (by omega) hg); have HZ2 := Lib.hid (HZ1.out.grown hg (by intro e; simp at e)); have HR2 := Lib.hid (RaceR.keptC HR1.out (by omega) hg); clear hd hg;
         have HP3 := Lib.hid (((HP2.out.setNe (q := w.heap.size) (o := 0) (by omega) (.int .i64 cl)).setNe (q := w.heap.size) (o := 1) (by omega) (.bool cd)).setNe (q := w.heap.size) (o := 2) (by omega) (.slice PA zs.length d));
         obtain ⟨z, hz, hz1⟩ := quo8 hy; have hw1 := wrap_nat (z := z) (by omega); have hw2 := wrap_sub (x := x) (z := z) (by omega) (by omega);
         have hzr := HZ2.out.range; have y0 := hzr 0 _ rfl; have y1 := hzr 1 _ rfl; have y2 := hzr 2 _ rfl; have yf := HZ2.out.frozen; simp only [Nat.zero_add] at y0 y1 y2)
      | (go_at_call 84; refine (pick_dr ((zs.length : Int) + 1) HD0.out (by omega) (by omega) (by omega)).mono ?_; rintro e v1 ⟨x, hx, rfl, hd, hg⟩; have HD1 := Lib.hid hd; have HP1 := Lib.hid (HP0.out.keptC (by omega) hg); have HZ1 := Lib.hid (HZ0.out.grown hg (by intro e; simp at e)); have HR1 := Lib.hid (RaceR.keptC HR0.out (by omega) hg); clear hd hg))
  have hj : -1 ≤ (x : Int) - (z : Int) ∧ (x : Int) - (z : Int) ≤ 8 := by omega
  clear hz hw1 hw2 hy
  go_wp2_with fail
  refine bodyPost_ret (v := .tuple #[.agg #[.int .i64 cl, .bool cd, .slice PA zs.length d], .int .i64 ((x : Int) - (z : Int))]) (by simp [results, Try.results49, go_sem, y0, y1, y2]) rfl ⟨⟨cl, cd, PA, zs.length, d, zs⟩, (x : Int) - (z : Int), rfl, hj, ?_, hl, ?_⟩
  · exact RaceR.mono (RaceR.set3 HR2.out (by omega) _ _ _) (by omega)
  · exact Below.set3 (HD2.out.below2 HB0.out (by omega)) (Nat.le_refl _) _ _ _
set_option maxRecDepth 100000 in
set_option maxHeartbeats 4000000 in
theorem draw_StepRace (v0 : Value) (m : Nat) (w : World) (h : CodeS w v0 m) :
    Calls Try.prog 54 #[v0] w fun e w' => ∃ (p : Race) (s : Step), e = .returned (.tuple #[.agg #[.int .i64 p.clock, .bool p.closed, .slice p.a p.n p.c], .agg #[.int .i64 s.kind, .int .i64 s.entrant, .int .i64 s.value]]) ∧ DrawnSt s ∧ DrewR w w' p := by
  obtain ⟨A, cap, rfl⟩ : ∃ A cap, v0 = .slice A m cap := by obtain ⟨A, cap, e, _⟩ := h; exact ⟨A, cap, e⟩
  have h1 := h.below (below_alloc (below_alloc (Below.refl _ _) (.cells #[.int .i64 0, .bool false, .slice none 0 0] 24)) (.cells #[.int .i64 0, .int .i64 0, .int .i64 0] 53))
  obtain ⟨W0, hW0⟩ : ∃ W0, ((w.alloc (.cells #[.int .i64 0, .bool false, .slice none 0 0] 24)).alloc (.cells #[.int .i64 0, .int .i64 0, .int .i64 0] 53)).alloc (.cells #[.slice A m cap, .int .i64 0, .int .u64 0] 107) = W0 := ⟨_, rfl⟩
  have hcur : Cur (w.heap.size + 2) W0 0 := by rw [← hW0]; exact Cur.new h1 (w.heap.size + 2) (by simp)
  have hs0 : W0.heap.size = w.heap.size + 3 := by rw [← hW0]; simp
  have HB0 := Lib.hid (show Below w.heap.size w W0 by rw [← hW0]; exact below_alloc (below_alloc (below_alloc (Below.refl _ _) _) _) _)
  have HZ := Lib.hid (show LitAt W0 w.heap.size 24 zRace by rw [← hW0]; exact LitAt.alloc (LitAt.alloc (LitAt.new _ _ _ _ rfl) _) _)
  have HS := Lib.hid (show LitAt W0 (w.heap.size + 1) 53 [.int .i64 0, .int .i64 0, .int .i64 0] by rw [← hW0]; exact LitAt.alloc (LitAt.new _ _ _ _ (by simp)) _)
  have HC := Lib.hid (race_any (w.heap.size + 2) 0 W0 hcur (by omega))
  have HW0 := Lib.hid hW0
  clear h h1 hcur hW0
  go_enter Try.func54, Try.ntmps54
  go_wp2_with fail
  rw [HW0.out]
  refine HC.out.mono ?_
  rintro e w1 ⟨p, rfl, hr, hl, hd⟩
  have hg1 : w.heap.size + 3 ≤ w1.heap.size := by have := hd.size; omega
  replace HZ := Lib.hid ((HZ.out.grown hd.grown (by intro e; simp at e)).alloc (.cells #[.int .i64 p.clock, .bool p.closed, .slice p.a p.n p.c] 24))
  replace HS := Lib.hid ((HS.out.grown hd.grown (by intro e; simp at e)).alloc (.cells #[.int .i64 p.clock, .bool p.closed, .slice p.a p.n p.c] 24))
  have HR := Lib.hid (RaceR.below hr (below_alloc (Below.refl _ _) (.cells #[.int .i64 p.clock, .bool p.closed, .slice p.a p.n p.c] 24)))
  have HD := Lib.hid (hd.alloc (.cells #[.int .i64 p.clock, .bool p.closed, .slice p.a p.n p.c] 24))
  have HP := Lib.hid (show LitAt (w1.alloc (.cells #[.int .i64 p.clock, .bool p.closed, .slice p.a p.n p.c] 24)) w1.heap.size 24 p.lst from LitAt.new _ _ _ _ rfl)
  clear hr hd HC
  go_upto_region 3 with fail
  have hwg : w1.heap.size < (w1.alloc (.cells #[.int .i64 p.clock, .bool p.closed, .slice p.a p.n p.c] 24)).heap.size := HP.out.lt
  generalize w1.alloc (.cells #[.int .i64 p.clock, .bool p.closed, .slice p.a p.n p.c] 24) = W2 at *
  have HH := Lib.hid (show ∀ W, LitAt W w1.heap.size 24 p.lst → W.cell? ⟨w1.heap.size, 0, none⟩ = some (.int .i64 p.clock) ∧ W.cell? ⟨w1.heap.size, 1, none⟩ = some (.bool p.closed) ∧ W.cell? ⟨w1.heap.size, 2, none⟩ = some (.slice p.a p.n p.c) from fun W hW => by
    have r := hW.range
    have b0 := r 0 _ rfl
    have b1 := r 1 _ rfl
    have b2 := r 2 _ rfl
    simp only [Nat.zero_add] at b0 b1 b2
    exact ⟨b0, b1, b2⟩)
  have HP0 := Lib.hid (HP.out.below (Below.refl _ _).drew)
  have HD0 := Lib.hid HD.out.drew
  have HZ0 := Lib.hid (HZ.out.below (Below.refl _ _).drew)
  have HS0 := Lib.hid (HS.out.below (Below.refl _ _).drew)
  have HR0 := Lib.hid (RaceR.below HR.out (Below.refl _ _).drew)
  clear HP HD HZ HR HS
  go_region_held3 (fun w' => w'.cell? ⟨w1.heap.size, 0, none⟩ = some (.int .i64 p.clock) ∧ w'.cell? ⟨w1.heap.size, 1, none⟩ = some (.bool p.closed) ∧ w'.cell? ⟨w1.heap.size, 2, none⟩ = some (.slice p.a p.n p.c)) (exact HH.out _ (by first | (with_reducible exact HP0.out) | (with_reducible exact HP2.out) | (with_reducible exact HP3.out) | (with_reducible exact HP4.out) | (with_reducible exact HP5.out)))
    (first
      | (go_at_call 85; refine (raceStep_any (w.heap.size + 2) _ p W0 W2.drew HD0.out (by omega) HR0.out (by omega) hl).mono ?_; rintro e v2 ⟨s, he, hs, hr, hd, hg⟩; obtain rfl : e = .returned (.agg #[.int .i64 s.kind, .int .i64 s.entrant, .int .i64 s.value]) := he; have HDS := Lib.hid hs; have HR2 := Lib.hid hr; have HD2 := Lib.hid hd; have HP2 := Lib.hid (HP0.out.keptC (by omega) hg); have HZ2 := Lib.hid (HZ0.out.grown hg (by intro e; simp at e)); have HS2 := Lib.hid (HS0.out.grown hg (by intro e; simp at e)); clear hs hr hd hg;
         have HP3 := Lib.hid (((HP2.out.setNe (q := w.heap.size) (o := 0) (by omega) (.int .i64 p.clock)).setNe (q := w.heap.size) (o := 1) (by omega) (.bool p.closed)).setNe (q := w.heap.size) (o := 2) (by omega) (.slice p.a p.n p.c));
         have HP4 := Lib.hid (((HP3.out.setNe (q := w.heap.size + 1) (o := 0) (by omega) (.int .i64 s.kind)).setNe (q := w.heap.size + 1) (o := 1) (by omega) (.int .i64 s.entrant)).setNe (q := w.heap.size + 1) (o := 2) (by omega) (.int .i64 s.value));
         have hzr := HZ2.out.range; have y0 := hzr 0 _ rfl; have y1 := hzr 1 _ rfl; have y2 := hzr 2 _ rfl; have yf := HZ2.out.frozen; have hsr := HS2.out.range; have x0 := hsr 0 _ rfl; have x1 := hsr 1 _ rfl; have x2 := hsr 2 _ rfl; have xf := HS2.out.frozen; simp only [Nat.zero_add] at y0 y1 y2 x0 x1 x2))
  go_wp2_with fail
  refine bodyPost_ret (v := .tuple #[.agg #[.int .i64 p.clock, .bool p.closed, .slice p.a p.n p.c], .agg #[.int .i64 s.kind, .int .i64 s.entrant, .int .i64 s.value]]) (by simp [results, Try.results54, go_sem, y0, y1, y2, x0, x1, x2]) rfl ⟨p, s, rfl, HDS.out, ?_, hl, ?_⟩
  · exact RaceR.mono (RaceR.set3 (RaceR.set3 HR2.out (by omega) _ _ _) (by omega) _ _ _) (by omega)
  · exact Below.set3 (Below.set3 (HD2.out.below2 HB0.out (by omega)) (Nat.le_refl _) _ _ _) (by omega) _ _ _
set_option maxRecDepth 100000 in
set_option maxHeartbeats 4000000 in
theorem draw_NewRace (v0 : Value) (m : Nat) (w : World) (h : CodeS w v0 m) :
    Calls Try.prog 57 #[v0] w fun e w' => ∃ n : Int, e = .returned (.int .i64 n) ∧ (0 ≤ n ∧ n ≤ 9) ∧ Below w.heap.size w w' := by
  obtain ⟨A, cap, rfl⟩ : ∃ A cap, v0 = .slice A m cap := by obtain ⟨A, cap, e, _⟩ := h; exact ⟨A, cap, e⟩
  obtain ⟨W0, hW0⟩ : ∃ W0, w.alloc (.cells #[.slice A m cap, .int .i64 0, .int .u64 0] 107) = W0 := ⟨_, rfl⟩
  have hcur : Cur w.heap.size W0 0 := by rw [← hW0]; exact Cur.new h w.heap.size rfl
  have HD := Lib.hid (Dr.start hcur)
  have HBL := Lib.hid (show ∀ W : World, W0.grownBy W (some w.heap.size) → Below w.heap.size w W from fun W hg => by rw [← hW0] at hg; exact below_cur hg)
  have hs0 : W0.heap.size = w.heap.size + 1 := by rw [← hW0]; simp
  have HW0 := Lib.hid hW0
  clear h hcur hW0
  go_enter Try.func57, Try.ntmps57
  go_upto_region 2 with fail
  rw [HW0.out]
  go_wp2_with fail
  refine (among_dr [1, 2, 5, 8, 0, 9] 0 9 HD.out _ rfl _ _ rfl (by omega) _ (hgg := hs0)).mono ?_
  rintro e w1 ⟨v, rfl, hv, hd, hg⟩
  have HB := Lib.hid (HBL.out _ hg)
  clear hd hg
  go_wp2_with fail
  go_ret
  exact ⟨v, rfl, hv, HB.out⟩
end Go.Proofs.Ytfmgnbkneccekaa
