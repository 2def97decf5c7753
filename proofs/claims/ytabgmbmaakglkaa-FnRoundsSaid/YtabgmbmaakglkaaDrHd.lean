/- The draws of FnHeats. No condition. -/
import Derived.Test.YtabgmbmaakglkaaDrHc
import Derived.OwnWalk
namespace Go.Proofs.Ytabgmbmaakglkaa
open Go Go.RowKit

theorem pick_dr0 {c n : Nat} {w0 w : World} (k : Int) (h : Dr c w0 w n) (hn : n ≤ 1000000) (hk : k ≤ 65536) :
    Calls Try.prog 76 #[.pointer (some ⟨c, 0, none⟩), .int .i64 k] w fun e w' => ∃ x : Nat, x ≤ 65536 ∧ e = .returned (.int .i64 x) ∧ Dr c w0 w' (n + 2) ∧ w.grownBy w' (some c) := by
  refine (pick_any c n k w h.cur (by omega) hk).mono ?_
  rintro e w' ⟨x, rfl, hx0, hx1, hc, hg⟩
  exact ⟨x.toNat, by omega, by rw [Int.toNat_of_nonneg hx0], h.step hc hg, hg⟩
def Lens8 (p : Ht) : Prop := p.k.runners.length ≤ 8 ∧ p.k.times.length ≤ 8

set_option maxRecDepth 100000 in
set_option maxHeartbeats 4000000 in
theorem draw_IsHeat (v : Value) (m : Nat) (w : World) (h : CodeS w v m) :
    Calls Try.prog 68 #[v] w fun e w' => ∃ p : Ht, e = .returned (.agg #[.slice p.a p.n p.c, .slice p.b p.m p.d]) ∧ p.In w' ∧ (∀ q, (p.rv.ownBlock = some q ∨ p.tv.ownBlock = some q) → w.heap.size ≤ q) ∧ Lens8 p ∧ Below w.heap.size w w' := by
  obtain ⟨CA, ccap, rfl, hcc1, hcc2, hcc3⟩ := h
  have h : CodeS w (.slice CA m ccap) m := ⟨CA, ccap, rfl, hcc1, hcc2, hcc3⟩
  clear hcc1 hcc2 hcc3
  have hW0 : Below w.heap.size w (w.alloc (.cells #[.slice none 0 0, .slice none 0 0] 28)) := below_alloc (Below.refl _ _) _
  have hs0 : (w.alloc (.cells #[.slice none 0 0, .slice none 0 0] 28)).heap.size = w.heap.size + 1 := by simp
  have hz := LitAt.new w 28 zHeat w.heap.size rfl
  have hcur := Cur.new (h.below hW0) (w.heap.size + 1) hs0
  have HZ := Lib.hid (hz.alloc (.cells #[.slice CA m ccap, .int .i64 0, .int .u64 0] 97))
  have HD := Lib.hid (Dr.start hcur)
  have hBC := fun W (hg : ((w.alloc (.cells #[.slice none 0 0, .slice none 0 0] 28)).alloc (.cells #[.slice CA m ccap, .int .i64 0, .int .u64 0] 97)).grownBy W (some (w.heap.size + 1))) => step_ hW0 (Nat.le_refl _) (below_cur (w := w.alloc (.cells #[.slice none 0 0, .slice none 0 0] 28)) (by rw [hs0]; exact hg))
  have HBC := Lib.hid hBC
  have HCS := Lib.hid (show ((w.alloc (.cells #[.slice none 0 0, .slice none 0 0] 28)).alloc (.cells #[.slice CA m ccap, .int .i64 0, .int .u64 0] 97)).heap.size = w.heap.size + 2 by simp)
  clear h hW0 hs0 hz hcur hBC
  go_enter Try.func68, Try.ntmps68
  go_wp2_with fail
  generalize (w.alloc (.cells #[.slice none 0 0, .slice none 0 0] 28)).alloc (.cells #[.slice CA m ccap, .int .i64 0, .int .u64 0] 97) = W0 at HZ HD HBC HCS ⊢
  refine (among_dr [1, 500, 994] 1 994 HD.out _ rfl _ _ rfl (by omega) _ (hgg := HCS.out)).mono ?_
  rintro e1 w1 ⟨fr, rfl, hfr, hd, hg⟩
  replace HD := Lib.hid hd
  replace HZ := Lib.hid (HZ.out.grown hg (fun e => by have := Option.some.inj e; omega))
  clear hd hg
  go_wp2_with fail
  refine (heat_any _ _ fr w1 HD.out.cur (by omega) (by omega)).mono ?_
  rintro e2 w2 ⟨p, rfl, hin, hfar, hlens, hd, hg⟩
  have HFIN := Lib.hid (HBC.out w2 (grown_trans HD.out.grown hg))
  have HZ2 := HZ.out.grown hg (fun e => by have := Option.some.inj e; omega)
  have HSZ := Lib.hid (show w.heap.size + 2 ≤ w1.heap.size by have := HD.out.size; have := HCS.out; omega)
  have y0 := HZ2.range 0 _ rfl
  have y1 := HZ2.range 1 _ rfl
  have yf := HZ2.frozen
  simp only [Nat.zero_add] at y0 y1
  have HIN := Lib.hid hin
  clear hin hd hg HD HZ hfr
  go_wp2_with fail
  have hgg : w2.grownBy ((w2.setCell ⟨w.heap.size, 0, none⟩ (.slice p.a p.n p.c)).setCell ⟨w.heap.size, 1, none⟩ (.slice p.b p.m p.d)) (some w.heap.size) := grown_trans grown_setCell grown_setCell
  refine bodyPost_ret (v := .agg #[.slice p.a p.n p.c, .slice p.b p.m p.d]) (by simp [results, Try.results68, go_sem, y0, y1, yf]) rfl ⟨p, rfl, HIN.out.keptG hgg (fun q hq e => by have := (hfar q hq).1; have := Option.some.inj e; have := HSZ.out; omega), fun q hq => by have := (hfar q hq).1; have := HSZ.out; omega, hlens, HFIN.out.grown hgg HFIN.out.size (fun k e => by have := Option.some.inj e; omega)⟩

set_option maxRecDepth 100000 in
set_option maxHeartbeats 4000000 in
theorem draw_PlacingOf (v : Value) (m : Nat) (w : World) (h : CodeS w v m) :
    Calls Try.prog 35 #[v] w fun e w' => ∃ p : Ht, e = .returned (.agg #[.slice p.a p.n p.c, .slice p.b p.m p.d]) ∧ p.In w' ∧ (∀ q, (p.rv.ownBlock = some q ∨ p.tv.ownBlock = some q) → w.heap.size ≤ q) ∧ Lens8 p ∧ Below w.heap.size w w' := by
  obtain ⟨CA, ccap, rfl, hcc1, hcc2, hcc3⟩ := h
  have h : CodeS w (.slice CA m ccap) m := ⟨CA, ccap, rfl, hcc1, hcc2, hcc3⟩
  clear hcc1 hcc2 hcc3
  have hW0 : Below w.heap.size w (w.alloc (.cells #[.slice none 0 0, .slice none 0 0] 28)) := below_alloc (Below.refl _ _) _
  have hs0 : (w.alloc (.cells #[.slice none 0 0, .slice none 0 0] 28)).heap.size = w.heap.size + 1 := by simp
  have HZ := Lib.hid (LitAt.new w 28 zHeat w.heap.size rfl)
  have HC := Lib.hid (draw_IsHeat _ m _ (h.below hW0))
  have HW0 := Lib.hid hW0
  clear h hW0
  go_enter Try.func35, Try.ntmps35
  go_wp2_with fail
  generalize w.alloc (.cells #[.slice none 0 0, .slice none 0 0] 28) = W0 at HZ HC HW0 hs0 ⊢
  refine HC.out.mono ?_
  rintro e2 w2 ⟨p, rfl, hin, hfar, hlens, hb⟩
  have HZ2 := HZ.out.below hb
  have y0 := HZ2.range 0 _ rfl
  have y1 := HZ2.range 1 _ rfl
  have yf := HZ2.frozen
  simp only [Nat.zero_add] at y0 y1
  have HIN := Lib.hid hin
  have HB := Lib.hid (step_ HW0.out (Nat.le_refl _) hb)
  clear hin hb
  have hgg : w2.grownBy ((w2.setCell ⟨w.heap.size, 0, none⟩ (.slice p.a p.n p.c)).setCell ⟨w.heap.size, 1, none⟩ (.slice p.b p.m p.d)) (some w.heap.size) := grown_trans grown_setCell grown_setCell
  go_wp2_with fail
  refine bodyPost_ret (v := .agg #[.slice p.a p.n p.c, .slice p.b p.m p.d]) (by simp [results, Try.results35, go_sem, y0, y1, yf]) rfl ⟨p, rfl, HIN.out.keptG hgg (fun q hq e => by have := hfar q hq; have := Option.some.inj e; omega), fun q hq => by have := hfar q hq; omega, hlens, HB.out.grown hgg HB.out.size (fun k e => by have := Option.some.inj e; omega)⟩

set_option maxRecDepth 100000 in
set_option maxHeartbeats 4000000 in
theorem draw_GoingOn (v : Value) (m : Nat) (w : World) (h : CodeS w v m) :
    Calls Try.prog 39 #[v] w fun e w' => ∃ r xs d l, e = .returned (.tuple #[r, .int .i64 d, .int .i64 l]) ∧ HtS w' r xs ∧ xs.length ≤ 6 ∧ (∀ p ∈ xs, Lens8 p) ∧ (-500 ≤ d ∧ d ≤ 2000) ∧ (-500 ≤ l ∧ l ≤ 2000) ∧ Below w.heap.size w w' := by
  obtain ⟨CA, ccap, rfl, hcc1, hcc2, hcc3⟩ := h
  have h : CodeS w (.slice CA m ccap) m := ⟨CA, ccap, rfl, hcc1, hcc2, hcc3⟩
  clear hcc1 hcc2 hcc3
  have HD := Lib.hid (Dr.start (Cur.new h w.heap.size rfl))
  have HCS := Lib.hid (show (w.alloc (.cells #[.slice CA m ccap, .int .i64 0, .int .u64 0] 97)).heap.size = w.heap.size + 1 by simp)
  have HBC := Lib.hid (fun W' (hg : (w.alloc (.cells #[.slice CA m ccap, .int .i64 0, .int .u64 0] 97)).grownBy W' (some w.heap.size)) => below_cur hg)
  clear h
  go_enter Try.func39, Try.ntmps39
  go_wp2_with fail
  generalize w.alloc (.cells #[.slice CA m ccap, .int .i64 0, .int .u64 0] 97) = W0 at HD HCS HBC ⊢
  refine (round18_any _ _ W0 HD.out.cur (by omega)).mono ?_
  rintro e w' ⟨r, xs, rfl, hr, hf, hxl, hl8, hd⟩
  replace HD := Lib.hid hd
  have HR := Lib.hid hr
  have HF := Lib.hid hf
  clear hr hf hd
  go_wp2_with fail
  obtain ⟨gl, hgl, hcg⟩ : ∃ gl, w'.heap.size = gl ∧ w.heap.size < gl := ⟨_, rfl, by have := HD.out.size; have := HCS.out; omega⟩
  have HLIT := Lib.hid (LitAt.new w' 3 ([1,2,3,0,4].map (Value.int .i64)) w'.heap.size rfl)
  replace HD := Lib.hid (HD.out.alloc (.cells ([1,2,3,0,4].map (Value.int .i64)).toArray 3))
  replace HR := Lib.hid (HR.out.below (below_alloc (Below.refl _ _) (.cells ([1,2,3,0,4].map (Value.int .i64)).toArray 3)))
  rw [hgl] at HLIT
  refine (pick_dr 24 HD.out (by omega) (by omega) (by omega)).mono ?_
  rintro e w' ⟨y, hy, rfl, hd, hg⟩
  replace HD := Lib.hid hd
  replace HR := Lib.hid (HR.out.keptC HF.out (by have := HCS.out; omega) hg)
  replace HLIT := Lib.hid (HLIT.out.keptC hcg hg)
  clear hd hg
  go_wp2_with fail
  refine (cut_dr [1,2,3,0,4] (-500) 2000 HD.out gl _ _ HLIT.out rfl _ _ (by omega) (by simp; omega) (by omega) (by omega) (by omega) (by omega) (by simp) (by intro x hx; simp at hx; omega)).mono ?_
  rintro e w' ⟨z, rfl, hz, hd, hg⟩
  replace HD := Lib.hid hd
  replace HR := Lib.hid (HR.out.keptC HF.out (by have := HCS.out; omega) hg)
  clear hd hg HLIT hgl hcg
  obtain ⟨d0, hd0⟩ : ∃ d0, d0 = z := ⟨_, rfl⟩
  have hzd := hz
  rw [← hd0] at hzd
  rw [← hd0]
  clear hd0 hz
  go_wp2_with fail
  obtain ⟨gl, hgl, hcg⟩ : ∃ gl, w'.heap.size = gl ∧ w.heap.size < gl := ⟨_, rfl, by have := HD.out.size; have := HCS.out; omega⟩
  have HLIT := Lib.hid (LitAt.new w' 3 ([0,1,2,6,-1,7].map (Value.int .i64)) w'.heap.size rfl)
  replace HD := Lib.hid (HD.out.alloc (.cells ([0,1,2,6,-1,7].map (Value.int .i64)).toArray 3))
  replace HR := Lib.hid (HR.out.below (below_alloc (Below.refl _ _) (.cells ([0,1,2,6,-1,7].map (Value.int .i64)).toArray 3)))
  rw [hgl] at HLIT
  refine (pick_dr 24 HD.out (by omega) (by omega) (by omega)).mono ?_
  rintro e w' ⟨y, hy, rfl, hd, hg⟩
  replace HD := Lib.hid hd
  replace HR := Lib.hid (HR.out.keptC HF.out (by have := HCS.out; omega) hg)
  replace HLIT := Lib.hid (HLIT.out.keptC hcg hg)
  clear hd hg
  go_wp2_with fail
  refine (cut_dr [0,1,2,6,-1,7] (-500) 2000 HD.out gl _ _ HLIT.out rfl _ _ (by omega) (by simp; omega) (by omega) (by omega) (by omega) (by omega) (by simp) (by intro x hx; simp at hx; omega)).mono ?_
  rintro e w' ⟨z, rfl, hz, hd, hg⟩
  replace HD := Lib.hid hd
  replace HR := Lib.hid (HR.out.keptC HF.out (by have := HCS.out; omega) hg)
  clear hd hg HLIT hgl hcg
  have HFIN := Lib.hid (HBC.out _ HD.out.grown)
  have HRF := Lib.hid HR.out
  clear HD HR HBC
  go_wp2_with fail
  go_ret3
  exact ⟨r, xs, d0, z, rfl, HRF.out, hxl, hl8, hzd, hz, HFIN.out⟩
set_option maxRecDepth 100000 in
set_option maxHeartbeats 4000000 in
theorem draw_PhotoFinish (v : Value) (m : Nat) (w : World) (h : CodeS w v m) :
    Calls Try.prog 47 #[v] w fun e w' => ∃ r xs d, e = .returned (.tuple #[r, .int .i64 d]) ∧ HtS w' r xs ∧ xs.length ≤ 6 ∧ (∀ p ∈ xs, Lens8 p) ∧ (-500 ≤ d ∧ d ≤ 2000) ∧ Below w.heap.size w w' := by
  obtain ⟨CA, ccap, rfl, hcc1, hcc2, hcc3⟩ := h
  have h : CodeS w (.slice CA m ccap) m := ⟨CA, ccap, rfl, hcc1, hcc2, hcc3⟩
  clear hcc1 hcc2 hcc3
  have HD := Lib.hid (Dr.start (Cur.new h w.heap.size rfl))
  have HCS := Lib.hid (show (w.alloc (.cells #[.slice CA m ccap, .int .i64 0, .int .u64 0] 97)).heap.size = w.heap.size + 1 by simp)
  have HBC := Lib.hid (fun W' (hg : (w.alloc (.cells #[.slice CA m ccap, .int .i64 0, .int .u64 0] 97)).grownBy W' (some w.heap.size)) => below_cur hg)
  clear h
  go_enter Try.func47, Try.ntmps47
  go_wp2_with fail
  generalize w.alloc (.cells #[.slice CA m ccap, .int .i64 0, .int .u64 0] 97) = W0 at HD HCS HBC ⊢
  refine (round18_any _ _ W0 HD.out.cur (by omega)).mono ?_
  rintro e w' ⟨r, xs, rfl, hr, hf, hxl, hl8, hd⟩
  replace HD := Lib.hid hd
  have HR := Lib.hid hr
  have HF := Lib.hid hf
  clear hr hf hd
  go_wp2_with fail
  obtain ⟨gl, hgl, hcg⟩ : ∃ gl, w'.heap.size = gl ∧ w.heap.size < gl := ⟨_, rfl, by have := HD.out.size; have := HCS.out; omega⟩
  have HLIT := Lib.hid (LitAt.new w' 3 ([1,5,10,60,0,61].map (Value.int .i64)) w'.heap.size rfl)
  replace HD := Lib.hid (HD.out.alloc (.cells ([1,5,10,60,0,61].map (Value.int .i64)).toArray 3))
  replace HR := Lib.hid (HR.out.below (below_alloc (Below.refl _ _) (.cells ([1,5,10,60,0,61].map (Value.int .i64)).toArray 3)))
  rw [hgl] at HLIT
  refine (pick_dr 24 HD.out (by omega) (by omega) (by omega)).mono ?_
  rintro e w' ⟨y, hy, rfl, hd, hg⟩
  replace HD := Lib.hid hd
  replace HR := Lib.hid (HR.out.keptC HF.out (by have := HCS.out; omega) hg)
  replace HLIT := Lib.hid (HLIT.out.keptC hcg hg)
  clear hd hg
  go_wp2_with fail
  refine (cut_dr [1,5,10,60,0,61] (-500) 2000 HD.out gl _ _ HLIT.out rfl _ _ (by omega) (by simp; omega) (by omega) (by omega) (by omega) (by omega) (by simp) (by intro x hx; simp at hx; omega)).mono ?_
  rintro e w' ⟨z, rfl, hz, hd, hg⟩
  replace HD := Lib.hid hd
  replace HR := Lib.hid (HR.out.keptC HF.out (by have := HCS.out; omega) hg)
  clear hd hg HLIT hgl hcg
  have HFIN := Lib.hid (HBC.out _ HD.out.grown)
  have HRF := Lib.hid HR.out
  clear HD HR HBC
  go_wp2_with fail
  go_ret2
  exact ⟨r, xs, z, rfl, HRF.out, hxl, hl8, hz, HFIN.out⟩

set_option maxHeartbeats 4000000 in
theorem draw_IsRound (v : Value) (m : Nat) (w : World) (h : CodeS w v m) :
    Calls Try.prog 82 #[v] w fun e w' => ∃ r xs, e = .returned r ∧ HtS w' r xs ∧ xs.length ≤ 6 ∧ (∀ p ∈ xs, Lens8 p) ∧ Below w.heap.size w w' := by
  obtain ⟨CA, ccap, rfl, hcc1, hcc2, hcc3⟩ := h
  have h : CodeS w (.slice CA m ccap) m := ⟨CA, ccap, rfl, hcc1, hcc2, hcc3⟩
  clear hcc1 hcc2 hcc3
  have HD := Lib.hid (Dr.start (Cur.new h w.heap.size rfl))
  have HCS := Lib.hid (show (w.alloc (.cells #[.slice CA m ccap, .int .i64 0, .int .u64 0] 97)).heap.size = w.heap.size + 1 by simp)
  have HBC := Lib.hid (fun W' (hg : (w.alloc (.cells #[.slice CA m ccap, .int .i64 0, .int .u64 0] 97)).grownBy W' (some w.heap.size)) => below_cur hg)
  clear h
  go_enter Try.func82, Try.ntmps82
  go_wp2_with fail
  generalize w.alloc (.cells #[.slice CA m ccap, .int .i64 0, .int .u64 0] 97) = W0 at HD HCS HBC ⊢
  refine (round18_any _ _ W0 HD.out.cur (by omega)).mono ?_
  rintro e w' ⟨r, xs, rfl, hr, hf, hxl, hl8, hd⟩
  have HR := Lib.hid hr
  have HFIN := Lib.hid (HBC.out _ hd.grown)
  clear hr hf hd HD HBC
  go_wp2_with fail
  go_ret
  exact ⟨r, xs, rfl, HR.out, hxl, hl8, HFIN.out⟩
theorem draw_RoundRank (v : Value) (m : Nat) (w : World) (h : CodeS w v m) :
    Calls Try.prog 48 #[v] w fun e w' => ∃ r xs, e = .returned r ∧ HtS w' r xs ∧ xs.length ≤ 6 ∧ (∀ p ∈ xs, Lens8 p) ∧ Below w.heap.size w w' := by
  have HC := Lib.hid (draw_IsRound v m w h)
  clear h
  go_enter Try.func48, Try.ntmps48
  go_wp2_with fail
  refine HC.out.mono ?_
  rintro e w' ⟨r, xs, rfl, hr, hxl, hl8, hb⟩
  have HR := Lib.hid hr
  clear hr
  go_wp2_with fail
  go_ret
  exact ⟨r, xs, rfl, HR.out, hxl, hl8, hb⟩
end Go.Proofs.Ytabgmbmaakglkaa
