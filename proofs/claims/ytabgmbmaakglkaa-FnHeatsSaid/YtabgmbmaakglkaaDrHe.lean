/- The draw of GapIn's arguments. No condition. -/
import Derived.Test.YtabgmbmaakglkaaDrHd
namespace Go.Proofs.Ytabgmbmaakglkaa
open Go Go.RowKit

set_option maxRecDepth 100000 in
set_option maxHeartbeats 8000000 in
theorem draw_GapIn (v : Value) (m : Nat) (w : World) (h : CodeS w v m) :
    Calls Try.prog 41 #[v] w fun e w' => ∃ (p : Ht) (a b : Int), e = .returned (.tuple #[.agg #[.slice p.a p.n p.c, .slice p.b p.m p.d], .int .i64 a, .int .i64 b]) ∧ p.In w' ∧ Lens8 p ∧ Below w.heap.size w w' := by
  obtain ⟨CA, ccap, rfl, hcc1, hcc2, hcc3⟩ := h
  have h : CodeS w (.slice CA m ccap) m := ⟨CA, ccap, rfl, hcc1, hcc2, hcc3⟩
  clear hcc1 hcc2 hcc3
  have hW0 : Below w.heap.size w (w.alloc (.cells #[.slice none 0 0, .slice none 0 0] 28)) := below_alloc (Below.refl _ _) _
  have hs0 : (w.alloc (.cells #[.slice none 0 0, .slice none 0 0] 28)).heap.size = w.heap.size + 1 := by simp
  have hz := LitAt.new w 28 zHeat w.heap.size rfl
  have hcur := Cur.new (h.below hW0) (w.heap.size + 1) hs0
  have HZ := Lib.hid (hz.alloc (.cells #[.slice CA m ccap, .int .i64 0, .int .u64 0] 97))
  have HD := Lib.hid (Dr.start hcur)
  have hBC := fun W (hg : ((w.alloc (.cells #[.slice none 0 0, .slice none 0 0] 28)).alloc (.cells #[.slice CA m ccap, .int .i64 0, .int .u64 0] 97)).grownBy W (some (w.heap.size + 1))) => step_ hW0 (Nat.le_refl _) (below_cur (w := w.alloc (.cells #[.slice none 0 0, .slice none 0 0] 28)) (by rw [hs0]; exact hg))
  have HBC := Lib.hid hBC
  have HCS := Lib.hid (show ((w.alloc (.cells #[.slice none 0 0, .slice none 0 0] 28)).alloc (.cells #[.slice CA m ccap, .int .i64 0, .int .u64 0] 97)).heap.size = w.heap.size + 2 by simp)
  clear h hW0 hs0 hz hcur hBC
  go_enter Try.func41, Try.ntmps41
  go_wp2_with fail
  generalize (w.alloc (.cells #[.slice none 0 0, .slice none 0 0] 28)).alloc (.cells #[.slice CA m ccap, .int .i64 0, .int .u64 0] 97) = W0 at HZ HD HBC HCS ⊢
  refine (heat_any _ _ 1 W0 HD.out.cur (by omega) (by omega)).mono ?_
  rintro e2 w2 ⟨p, rfl, hin, hfar, hlens, hd, hg⟩
  replace HD := Lib.hid hd
  replace HZ := Lib.hid (HZ.out.grown hg (fun e => by have := Option.some.inj e; omega))
  have HFAR := Lib.hid (show ∀ q, (p.rv.ownBlock = some q ∨ p.tv.ownBlock = some q) → w.heap.size + 2 ≤ q from fun q hq => by have := (hfar q hq).1; have := HCS.out; omega)
  have HIN := Lib.hid hin
  have hpl := hin.len
  have hl8 : p.n ≤ 8 := by rw [hpl.1]; exact hlens.1
  have HSZ := Lib.hid (show w.heap.size + 2 ≤ w2.heap.size by have := HD.out.size; have := HCS.out; omega)
  -- the variable
  have HB6 := Lib.hid (LitAt.new w2 28 p.lst w2.heap.size rfl)
  have HD0 := Lib.hid ((HD.out.alloc (.cells #[.slice p.a p.n p.c, .slice p.b p.m p.d] 28)).drew)
  have HI0 := Lib.hid (HIN.out.below ((below_alloc (Below.refl _ _) (.cells #[.slice p.a p.n p.c, .slice p.b p.m p.d] 28)).drew))
  have HZ0 := Lib.hid ((HZ.out.alloc (.cells #[.slice p.a p.n p.c, .slice p.b p.m p.d] 28)).drew)
  have HB0 := Lib.hid (show LitAt (w2.alloc (.cells #[.slice p.a p.n p.c, .slice p.b p.m p.d] 28)).drew w2.heap.size 28 p.lst from HB6.out.drew)
  clear hin hfar hd hg hpl HD HZ HIN HB6
  go_wp2_with fail
  have hcell : ∀ {W : World}, LitAt W w2.heap.size 28 p.lst → W.cell? ⟨w2.heap.size, 0, none⟩ = some (.slice p.a p.n p.c) ∧ W.cell? ⟨w2.heap.size, 1, none⟩ = some (.slice p.b p.m p.d) := fun hL => by
    have h0 := hL.range 0 _ rfl
    have h1 := hL.range 1 _ rfl
    simp only [Nat.zero_add] at h0 h1
    exact ⟨h0, h1⟩
  have HCELL := Lib.hid (fun (W : World) (hL : LitAt W w2.heap.size 28 p.lst) => hcell hL)
  clear hcell
  have hc0 := HCELL.out _ HB0.out
  have hw1 : IntKind.i64.wrap ((p.n : Int) + 1) = (p.n : Int) + 1 := by rw [IntKind.wrap_i64]; omega
  go_region_held3 (fun w' => w'.cell? ⟨w2.heap.size, 0, none⟩ = some (.slice p.a p.n p.c) ∧ w'.cell? ⟨w2.heap.size, 1, none⟩ = some (.slice p.b p.m p.d))
    (first | exact HCELL.out _ ((HB9.out.setNe_ (q := w.heap.size) (o := 0) (by have := HSZ.out; omega) _).setNe_ (q := w.heap.size) (o := 1) (by have := HSZ.out; omega) _) | exact HCELL.out _ HB9.out | exact HCELL.out _ HB8.out | exact HCELL.out _ HB0.out)
    (first
      | (go_at_call 76; refine (pick_dr0 _ HD8.out (by omega) (by omega)).mono ?_; rintro e9 w9 ⟨x9, hx9, rfl, hd9, hg9⟩; have HZ9 := Lib.hid (HZ8.out.grown hg9 (fun e => by have := Option.some.inj e; omega)); have HB9 := Lib.hid (HB8.out.grown hg9 (fun e => by have := Option.some.inj e; have := HSZ.out; omega)); have HI9 := Lib.hid (HI8.out.keptG hg9 (fun q hq e => by have := HFAR.out q hq; have := Option.some.inj e; omega)); have HD9 := Lib.hid hd9; have z0 := HZ9.out.range 0 _ rfl; have z1 := HZ9.out.range 1 _ rfl; have zf := HZ9.out.frozen; simp only [Nat.zero_add] at z0 z1; have hwx9 : IntKind.i64.wrap (1 + (x9 : Int)) = 1 + (x9 : Int) := by rw [IntKind.wrap_i64]; omega)
      | (go_at_call 76; refine (pick_dr0 _ HD0.out (by omega) (by omega)).mono ?_; rintro e8 w8 ⟨x8, hx8, rfl, hd8, hg8⟩; have HZ8 := Lib.hid (HZ0.out.grown hg8 (fun e => by have := Option.some.inj e; omega)); have HB8 := Lib.hid (HB0.out.grown hg8 (fun e => by have := Option.some.inj e; have := HSZ.out; omega)); have HI8 := Lib.hid (HI0.out.keptG hg8 (fun q hq e => by have := HFAR.out q hq; have := Option.some.inj e; omega)); have HD8 := Lib.hid hd8; have hwx8 : IntKind.i64.wrap (1 + (x8 : Int)) = 1 + (x8 : Int) := by rw [IntKind.wrap_i64]; omega))
  all_goals
    have HFIN := Lib.hid (HBC.out _ HD9.out.grown)
    have hgg : w9.grownBy ((w9.setCell ⟨w.heap.size, 0, none⟩ (.slice p.a p.n p.c)).setCell ⟨w.heap.size, 1, none⟩ (.slice p.b p.m p.d)) (some w.heap.size) := grown_trans grown_setCell grown_setCell
    go_wp2_with fail
    refine bodyPost_ret (v := .tuple #[.agg #[.slice p.a p.n p.c, .slice p.b p.m p.d], .int .i64 _, .int .i64 _]) (by simp [results, Try.results41, go_sem, z0, z1, zf]; exact ⟨rfl, rfl⟩) rfl ⟨p, _, _, rfl, HI9.out.keptG hgg (fun q hq e => by have := HFAR.out q hq; have := Option.some.inj e; omega), hlens, HFIN.out.grown hgg HFIN.out.size (fun k e => by have := Option.some.inj e; omega)⟩
end Go.Proofs.Ytabgmbmaakglkaa
