/- The law's own copies, sizes and comparisons of heats. No condition. -/
import Derived.Test.YtabgmbmaakglkaaHt
import Derived.Test.YtabgmbmaakglkaaReg
import Derived.OneCell
namespace Go.Proofs.Ytabgmbmaakglkaa
open Go Go.RowKit

theorem LitAt.set {e : TypeId} {w : World} {g : Nat} {cs : List Value} (h : LitAt w g e cs) (j : Nat) (u : Value) : LitAt (w.setCell ⟨g, j, none⟩ u) g e (cs.set j u) := by
  unfold LitAt at h ⊢
  rw [heap_setCell_same w g j cs.toArray e u h]
  simp
theorem LitAt.setNe {e : TypeId} {w : World} {g q o : Nat} {cs : List Value} (h : LitAt w g e cs) (hne : g ≠ q) (u : Value) : LitAt (w.setCell ⟨q, o, none⟩ u) g e cs := by
  unfold LitAt at h ⊢
  rw [Below.heap_setCell _ _ _ _ (by simpa using hne)]
  exact h
theorem Row.setOther {base : Nat} {e : TypeId} {sz : Nat} {w : World} {v : Value} {ys : List (List Value)} (h : Row base e sz w v ys) {q o : Nat} (hq : q < base) (u : Value) : Row base e sz (w.setCell ⟨q, o, none⟩ u) v ys :=
  ⟨h.1, ownsRow_setCell_other h.2 (fun e => by have := (h.lt q e).1; omega) _⟩

set_option maxRecDepth 100000 in
set_option maxHeartbeats 1000000 in
theorem szHeat_any0 (p : Ht) (left : Int) (w : World) (h : p.In w) (hl : 0 ≤ left) (hl2 : left ≤ 1048576) :
    Calls Try.prog 10 #[p.val, .int .i64 left] w fun e w' => e = .returned (.int .i64 (szLeft left (p.k.runners.length + p.k.times.length))) ∧ Below w.heap.size w w' := by
  obtain ⟨⟨rs, ts⟩, A, n, c, B, m, d⟩ := p
  have hr : Sl (Flat ints) 1 w (.slice A n c) rs := h.1
  have ht : Sl (Flat ints) 1 w (.slice B m d) ts := h.2
  show Calls Try.prog 10 #[.agg #[.slice A n c, .slice B m d], .int .i64 left] w fun e w' => e = .returned (.int .i64 (szLeft left (rs.length + ts.length))) ∧ Below w.heap.size w w'
  have hW : Below w.heap.size w (w.alloc (.cells #[.slice A n c, .slice B m d] 24)) := below_alloc (Below.refl _ _) _
  have hl0 := LitAt.new w 24 [.slice A n c, .slice B m d] w.heap.size rfl
  have hc0 := hl0.range 0 _ rfl
  have hc1 := hl0.range 1 _ rfl
  simp only [Nat.zero_add] at hc0 hc1
  by_cases hbig : left < rs.length
  · have hsz := fun W (hW : Below w.heap.size w W) => szIntS_any rs (.slice A n c) left W (hr.below (Flat.keeps _) hW) hl (by omega)
    rw [szLeft_big hbig] at hsz
    rw [szLeft_big (by omega)]
    have HS1 := Lib.hid (hsz _ hW)
    have HW := Lib.hid hW
    clear hr ht h hsz hW hl0
    go_enter Try.func10, Try.ntmps10
    go_wp2_with fail
    refine HS1.out.mono ?_
    rintro e w' ⟨rfl, rfl⟩
    go_wp2_with fail
    go_ret
    exact ⟨rfl, HW.out⟩
  · have hsz := fun W (hW : Below w.heap.size w W) => szIntS_any rs (.slice A n c) left W (hr.below (Flat.keeps _) hW) hl (by omega)
    rw [szLeft_fits (by omega)] at hsz
    obtain ⟨l2, hl3⟩ : ∃ l2, l2 = left - (rs.length : Int) := ⟨_, rfl⟩
    rw [← hl3] at hsz
    have hl20 : 0 ≤ l2 := by omega
    have hsz2 := fun W (hW : Below w.heap.size w W) => szIntS_any ts (.slice B m d) l2 W (ht.below (Flat.keeps _) hW) hl20 (by omega)
    obtain ⟨q, hq⟩ : ∃ q, szLeft l2 ts.length = q := ⟨_, rfl⟩
    have hqq : szLeft left (rs.length + ts.length) = q := by rw [← hq]; unfold szLeft; rw [hl3]; split <;> split <;> omega
    rw [hq] at hsz2
    rw [hqq]
    have HQ1 := Lib.hid (show -1 ≤ q by rw [← hq]; unfold szLeft; split <;> omega)
    have HS1 := Lib.hid (hsz _ hW)
    have HS2 := Lib.hid (hsz2 _ hW)
    have HW := Lib.hid hW
    clear hq hqq hr ht h hl3 hbig hsz hsz2 hl0 hW
    go_enter Try.func10, Try.ntmps10
    go_wp2_with fail
    refine HS1.out.mono ?_
    rintro e w' ⟨rfl, rfl⟩
    go_wp2_with fail
    refine HS2.out.mono ?_
    rintro e w' ⟨rfl, rfl⟩
    go_wp2_with fail
    all_goals go_ret
    all_goals first
      | exact ⟨rfl, HW.out⟩
      | exact ⟨ret_int (by have := HQ1.out; omega), HW.out⟩

theorem szHeat_any (p : Ht) (left : Int) (w : World) (h : p.In w) (hl : 0 ≤ left) (hl2 : left ≤ 1048576) :
    Calls Try.prog 10 #[p.val, .int .i64 left] w fun e w' => ∃ q : Int, e = .returned (.int .i64 q) ∧ Hid (0 ≤ q → p.k.runners.length ≤ 1048576 ∧ p.k.times.length ≤ 1048576) ∧ q ≤ 1048576 ∧ Below w.heap.size w w' :=
  (szHeat_any0 p left w h hl hl2).mono fun _ _ ⟨h1, h2⟩ => ⟨_, h1, fun h3 => by unfold szLeft at h3; split at h3 <;> constructor <;> omega, by unfold szLeft; split <;> omega, h2⟩

set_option maxHeartbeats 1000000 in
/-- The size: where it fits, every length is small. -/
theorem szHeatS_any (xs : List Ht) (v : Value) (left : Int) (w : World) (h : HtS w v xs) (hl : 0 ≤ left) (hl2 : left ≤ 1048576) :
    Calls Try.prog 19 #[v, .int .i64 left] w fun e w' => ∃ q : Int, e = .returned (.int .i64 q) ∧ Hid (0 ≤ q → xs.length ≤ 1048576 ∧ ∀ p ∈ xs, p.k.runners.length ≤ 1048576 ∧ p.k.times.length ≤ 1048576) ∧ q ≤ 1048576 ∧ Below w.heap.size w w' := by
  have HI := Lib.hid h.2
  obtain ⟨A, c, rfl, hc, hm, hk⟩ := h.1.open_
  clear h
  by_cases hbig : left < xs.length
  · have hx : (left : Int) - (xs.length : Int) < 0 := by omega
    go_enter Try.func19, Try.ntmps19
    go_wp2
    go_ret
    exact ⟨-1, rfl, fun h => absurd h (by omega), by omega, Below.refl _ _⟩
  have hx : ¬ (left : Int) - (xs.length : Int) < 0 := by omega
  go_enter Try.func19, Try.ntmps19
  go_wp2
  go_loopw [1, 5] (fun l i wr => ∃ (k : Nat) (q : Int), k ≤ xs.length ∧ i = .int .i64 k ∧ l = .int .i64 q ∧ 0 ≤ q ∧ q ≤ 1048576 ∧ Hid (∀ j (h : j < xs.length), j < k → xs[j].k.runners.length ≤ 1048576 ∧ xs[j].k.times.length ≤ 1048576) ∧ Below w.heap.size w wr)
    (fun _ i _ => xs.length - (intOf i).toNat)
  case atStart => exact ⟨0, left - xs.length, Nat.zero_le _, rfl, rfl, by omega, by omega, fun j h hj => absurd hj (by omega), Below.refl _ _⟩
  case round =>
    obtain ⟨k, q, hkl, rfl, rfl, hq0, hq1, HS, hb⟩ := hrel
    by_cases hlt : k < xs.length
    · obtain ⟨b, off, rfl, hat⟩ := flat_at hk (by omega)
      have hr := rangeAt_below (hat k hlt) hb
      have hin := (HI.out _ (List.getElem_mem hlt)).below hb
      have hcall := szHeat_any0 xs[k] q wr hin hq0 hq1
      obtain ⟨r, hr1⟩ : ∃ r, szLeft q (xs[k].k.runners.length + xs[k].k.times.length) = r := ⟨_, rfl⟩
      rw [hr1] at hcall
      have HR := Lib.hid hr1
      clear hat hk hin hr1
      go_wp2_with (first
        | ((with_reducible refine at_load_ 24 ?_); refine Ht.loadLaws rfl _ rfl b (off + k * 2) rfl xs[k] hr ?_)
        | (go_at_call 10; refine hcall.mono ?_; rintro e w2 ⟨rfl, hb2⟩))
      all_goals have hB := step_ hb (Nat.le_refl _) hb2
      · go_ret
        exact ⟨-1, rfl, fun h => absurd h (by omega), by omega, hB⟩
      · have hr0 : 0 ≤ r := by omega
        have hrq : r ≤ q ∧ ((xs[k].k.runners.length + xs[k].k.times.length : Nat) : Int) ≤ q := by
          have := HR.out
          unfold szLeft at this
          split at this <;> omega
        go_roundw
        case rel => exact ⟨k + 1, r, by omega, by go_num, rfl, hr0, by omega, fun j h hj => by
          by_cases e : j < k
          · exact HS.out j h e
          · obtain rfl : j = k := by omega
            constructor <;> omega, hB⟩
        case measure => simp [intOf]; omega
    · go_wp2
      go_ret
      obtain rfl : k = xs.length := by omega
      exact ⟨q, rfl, fun _ => ⟨by omega, fun p hp => by
        obtain ⟨j, hj, rfl⟩ := List.getElem_of_mem hp
        exact HS.out j hj hj⟩, by omega, hb⟩

/-- A copy of a heat: it means the same, and its slices are rows of the call's own, apart. -/
def HtR (base : Nat) (w : World) (p : Ht) : Prop := Row base 3 1 w p.rv (p.k.runners.map ints) ∧ Row base 3 1 w p.tv (p.k.times.map ints) ∧ (p.rv.ownBlock = none ∨ p.rv.ownBlock ≠ p.tv.ownBlock)
theorem HtR.below {base : Nat} {w w' : World} {p : Ht} (h : HtR base w p) (hb : Below w.heap.size w w') : HtR base w' p := ⟨h.1.below hb, h.2.1.below hb, h.2.2⟩
theorem HtR.mono {base base' : Nat} {w : World} {p : Ht} (h : HtR base w p) (hb : base' ≤ base) : HtR base' w p := ⟨h.1.mono hb, h.2.1.mono hb, h.2.2⟩
theorem HtR.s {base : Nat} {w : World} {p : Ht} (h : HtR base w p) : p.In w := ⟨Sl.of_flat h.1, Sl.of_flat h.2.1⟩
def HtBlk (p : Ht) (k : Nat) : Prop := p.rv.ownBlock = some k ∨ p.tv.ownBlock = some k
theorem HtR.lt {base : Nat} {w : World} {p : Ht} (h : HtR base w p) : ∀ k, HtBlk p k → base ≤ k ∧ k < w.heap.size := by
  rintro k (hk | hk)
  · exact h.1.lt k hk
  · exact h.2.1.lt k hk

set_option maxRecDepth 100000 in
set_option maxHeartbeats 4000000 in
theorem toHeat_any0 (p : Ht) (w : World) (h : p.In w) (hn : p.k.runners.length ≤ 1048576) (hn2 : p.k.times.length ≤ 1048576) :
    Calls Try.prog 12 #[p.val] w fun e w' => ∃ p' : Ht, e = .returned p'.val ∧ p'.k = p.k ∧ HtR (w.heap.size + 1) w' p' ∧ Below w.heap.size w w' := by
  obtain ⟨⟨rs, ts⟩, A, n, c, B, m, d⟩ := p
  have hr : Sl (Flat ints) 1 w (.slice A n c) rs := h.1
  have ht : Sl (Flat ints) 1 w (.slice B m d) ts := h.2
  show Calls Try.prog 12 #[.agg #[.slice A n c, .slice B m d]] w _
  simp only at hn hn2
  clear h
  have hW : Below w.heap.size w (((w.alloc (.cells #[.slice A n c, .slice B m d] 24)).alloc (.cells #[.slice none 0 0, .slice none 0 0] 28)).alloc (.cells #[.slice none 0 0, .slice none 0 0] 28)) := by (repeat (first | exact Below.refl _ _ | assumption | refine Below.drew ?_ | refine Below.alloc ?_ (by first | exact Nat.le_refl _ | (simp; done) | (simp; omega)) _))
  have hl0 : LitAt (((w.alloc (.cells #[.slice A n c, .slice B m d] 24)).alloc (.cells #[.slice none 0 0, .slice none 0 0] 28)).alloc (.cells #[.slice none 0 0, .slice none 0 0] 28)) w.heap.size 24 [.slice A n c, .slice B m d] :=
    ((LitAt.new w 24 [.slice A n c, .slice B m d] w.heap.size rfl).alloc _).alloc _
  have hl1 : LitAt (((w.alloc (.cells #[.slice A n c, .slice B m d] 24)).alloc (.cells #[.slice none 0 0, .slice none 0 0] 28)).alloc (.cells #[.slice none 0 0, .slice none 0 0] 28)) (w.heap.size + 1) 28 [.slice none 0 0, .slice none 0 0] :=
    (LitAt.new (w.alloc _) 28 [.slice none 0 0, .slice none 0 0] (w.heap.size + 1) (by simp)).alloc _
  have hl2 : LitAt (((w.alloc (.cells #[.slice A n c, .slice B m d] 24)).alloc (.cells #[.slice none 0 0, .slice none 0 0] 28)).alloc (.cells #[.slice none 0 0, .slice none 0 0] 28)) (w.heap.size + 1 + 1) 28 [.slice none 0 0, .slice none 0 0] :=
    LitAt.new ((w.alloc _).alloc _) 28 [.slice none 0 0, .slice none 0 0] (w.heap.size + 1 + 1) (by simp)
  have hsz : (((w.alloc (.cells #[.slice A n c, .slice B m d] 24)).alloc (.cells #[.slice none 0 0, .slice none 0 0] 28)).alloc (.cells #[.slice none 0 0, .slice none 0 0] 28)).heap.size = w.heap.size + 3 := by simp
  go_enter Try.func12, Try.ntmps12
  go_wp2_with fail
  generalize ((w.alloc (.cells #[.slice A n c, .slice B m d] 24)).alloc (.cells #[.slice none 0 0, .slice none 0 0] 28)).alloc (.cells #[.slice none 0 0, .slice none 0 0] 28) = W at hW hl0 hl1 hl2 hsz ⊢
  refine (toIntS_any rs _ W (hr.below (Flat.keeps _) hW) hn).mono ?_
  rintro e w1 ⟨v1, rfl, row1, hb1⟩
  have hB1 := step_ hW (Nat.le_refl _) hb1
  obtain ⟨A1, c1, rfl, _, _⟩ := row1.parts
  simp only [List.length_map] at row1 ⊢
  have hW2 : Below w.heap.size w (w1.setCell ⟨w.heap.size + 1 + 1, 0, none⟩ (.slice A1 rs.length c1)) := hB1.setCell (by simp; omega) _
  have hm0 := (hl0.below hb1).setNe (q := w.heap.size + 1 + 1) (o := 0) (by omega) (.slice A1 rs.length c1)
  have hm1 := (hl1.below hb1).setNe (q := w.heap.size + 1 + 1) (o := 0) (by omega) (.slice A1 rs.length c1)
  have hm2 := (hl2.below hb1).set 0 (.slice A1 rs.length c1)
  have row2 := row1.setOther (q := w.heap.size + 1 + 1) (o := 0) (by omega) (.slice A1 rs.length c1)
  have hsz2 : w1.heap.size = (w1.setCell ⟨w.heap.size + 1 + 1, 0, none⟩ (.slice A1 rs.length c1)).heap.size := by simp
  have hc2 := (hl2.below hb1).range 0 _ rfl
  have hf2 := (hl2.below hb1).frozen
  have hc0 := hm0.range 1 _ rfl
  simp only [Nat.zero_add] at hc2 hc0
  have HLE := Lib.hid (show W.heap.size ≤ w1.heap.size from hb1.size)
  have HSZ := Lib.hid hsz
  have HSZ2 := Lib.hid hsz2
  have HROW := Lib.hid row2
  have HM0 := Lib.hid hm0
  have HM1 := Lib.hid hm1
  have HM2 := Lib.hid hm2
  have HW2 := Lib.hid hW2
  clear hsz hsz2 row1 row2 hm0 hm1 hm2 hW2 hl0 hl1 hl2 hr hb1 hB1 hW
  go_wp2_with fail
  generalize w1.setCell ⟨w.heap.size + 1 + 1, 0, none⟩ (.slice A1 rs.length c1) = W2 at HSZ2 HROW HM0 HM1 HM2 HW2 hc0 ⊢
  refine (toIntS_any ts _ W2 (ht.below (Flat.keeps _) HW2.out) hn2).mono ?_
  rintro e w3 ⟨v3, rfl, row3, hb3⟩
  have hB3 := step_ HW2.out (Nat.le_refl _) hb3
  obtain ⟨A3, c3, rfl, _, _⟩ := row3.parts
  simp only [List.length_map] at row3 ⊢
  have hm1 := HM1.out.below hb3
  have hm2 := HM2.out.below hb3
  have hc1 := hm1.range 0 _ rfl
  have hc2 := hm1.range 1 _ rfl
  have hc3 := hm2.range 0 _ rfl
  have hc4 := hm2.range 1 _ rfl
  have hf1 := hm1.frozen
  have hf2 := hm2.frozen
  simp only [Nat.zero_add] at hc1 hc2 hc3 hc4
  have ROW := Lib.hid (HROW.out.below hb3)
  have ROW3 := Lib.hid row3
  have HB3 := Lib.hid hB3
  have HAP := Lib.hid (apart_' HROW.out row3 (Nat.le_refl _))
  clear row3 hb3 hB3 hm1 hm2 hc0 ht hn hn2
  go_wp2
  refine bodyPost_ret (v := .agg #[.slice A1 rs.length c1, .slice A3 ts.length c3]) (by simp [results, Try.results12, go_sem, hc1, hc2, hc3, hc4, hf1, hf2]) rfl ⟨⟨⟨rs, ts⟩, A1, rs.length, c1, A3, ts.length, c3⟩, rfl, rfl, ⟨?_, ?_, HAP.out⟩, ?_⟩
  · refine (Row.setOther (Row.setOther (Row.setOther (ROW.out.mono (base' := w.heap.size + 3) (by have := HSZ.out; omega)) ?_ _) ?_ _) ?_ _).mono (by omega) <;> simp <;> omega
  · refine (Row.setOther (Row.setOther (Row.setOther (ROW3.out.mono (base' := w.heap.size + 3) (by have := HSZ.out; have := HSZ2.out; have := HLE.out; omega)) ?_ _) ?_ _) ?_ _).mono (by omega) <;> simp <;> omega
  · exact ((HB3.out.setCell (by simp; omega) _).setCell (by simp) _).setCell (by simp) _

theorem toHeat_any (p : Ht) (w : World) (h : p.In w) (hn : p.k.runners.length ≤ 1048576) (hn2 : p.k.times.length ≤ 1048576) :
    Calls Try.prog 12 #[p.val] w fun e w' => ∃ p' : Ht, e = .returned p'.val ∧ p'.k = p.k ∧ HtR w.heap.size w' p' ∧ Below w.heap.size w w' :=
  (toHeat_any0 p w h hn hn2).mono fun _ _ ⟨p', h1, h2, h3, h4⟩ => ⟨p', h1, h2, h3.mono (by omega), h4⟩
/-- Two heats whose slices lie apart. -/
def Ht.Ap (p q : Ht) : Prop := ∀ k, HtBlk p k → ¬ HtBlk q k
/-- Heats of the call's own, the outer row and the inner ones all apart. -/
def HtSR (base : Nat) (w : World) (v : Value) (zs : List Ht) : Prop :=
  Row base 28 2 w v (zs.map Ht.lst) ∧ (∀ z ∈ zs, HtR base w z ∧ ∀ k, HtBlk z k → v.ownBlock ≠ some k) ∧ zs.Pairwise Ht.Ap
theorem HtSR.below {base : Nat} {w w' : World} {v : Value} {zs : List Ht} (h : HtSR base w v zs) (hb : Below w.heap.size w w') : HtSR base w' v zs :=
  ⟨h.1.below hb, fun z hz => ⟨(h.2.1 z hz).1.below hb, (h.2.1 z hz).2⟩, h.2.2⟩
theorem HtSR.mono {base base' : Nat} {w : World} {v : Value} {zs : List Ht} (h : HtSR base w v zs) (hb : base' ≤ base) : HtSR base' w v zs :=
  ⟨h.1.mono hb, fun z hz => ⟨(h.2.1 z hz).1.mono hb, (h.2.1 z hz).2⟩, h.2.2⟩
theorem HtSR.s {base : Nat} {w : World} {v : Value} {zs : List Ht} (h : HtSR base w v zs) : HtS w v zs :=
  ⟨Sl.of_flat h.1, fun z hz => (h.2.1 z hz).1.s⟩
theorem HtR.kept {base : Nat} {w w' : World} {p : Ht} {row : Option Nat} (h : HtR base w p) (hg : w.grownBy w' row) (hne : ∀ k, HtBlk p k → row ≠ some k) : HtR base w' p := by
  have hh : ∀ v : Value, (∀ k, v.ownBlock = some k → HtBlk p k) → v.ownBlock = none ∨ v.ownBlock ≠ row := fun v hv => by
    cases h0 : v.ownBlock with
    | none => exact .inl rfl
    | some k => exact .inr (fun e => hne k (hv k h0) e.symm)
  exact ⟨h.1.kept hg (hh _ fun k hk => .inl hk), h.2.1.kept hg (hh _ fun k hk => .inr hk), h.2.2⟩

set_option maxHeartbeats 2000000 in
theorem toHeatS_any (xs : List Ht) (v : Value) (w : World) (h : HtS w v xs) (hn : xs.length ≤ 1048576) (hsp : ∀ p ∈ xs, p.k.runners.length ≤ 1048576 ∧ p.k.times.length ≤ 1048576) :
    Calls Try.prog 21 #[v] w fun e w' => ∃ v' zs, e = .returned v' ∧ zs.map Ht.k = xs.map Ht.k ∧ HtSR w.heap.size w' v' zs ∧ Below w.heap.size w w' := by
  have HI := Lib.hid h.2
  have HSP := Lib.hid hsp
  obtain ⟨A, c, rfl, hc, hm, hk⟩ := h.1.open_
  clear h hsp
  go_enter Try.func21, Try.ntmps21
  go_wp2_with (at_make; refine tyHt.make rfl _ _ rfl w.heap.size xs.length _ _ rfl rfl rfl rfl (by omega) (Nat.le_refl _) ?_; intro w1 hrow1 hb1 hz1)
  go_loopw [4] (fun i wr => ∃ (k : Nat) (zs : List Ht), k ≤ xs.length ∧ zs.length = k ∧ i = .int .i64 k ∧ Hid (zs.map Ht.k = (xs.take k).map Ht.k) ∧ Row w.heap.size 28 2 wr (.slice (some ⟨w.heap.size, 0, none⟩) xs.length xs.length) (zs.map Ht.lst ++ List.replicate (xs.length - k) htZ) ∧ Hid (∀ z ∈ zs, HtR (w.heap.size + 1) wr z) ∧ Hid (zs.Pairwise Ht.Ap) ∧ Below w.heap.size w wr ∧ w.heap.size < wr.heap.size)
    (fun i _ => xs.length - (intOf i).toNat)
  case atStart => exact ⟨0, [], Nat.zero_le _, rfl, rfl, rfl, by simpa using hrow1, fun z hz => absurd hz (by simp), List.Pairwise.nil, hb1, hz1⟩
  case round =>
    obtain ⟨k, zs, hkl, hzl, rfl, HK, hrow, HR, HP, hb, hz⟩ := hrel
    have HZL := Lib.hid hzl
    clear hzl
    by_cases hlt : k < xs.length
    · obtain ⟨b, off, rfl, hat⟩ := flat_at hk (by omega)
      have hr := rangeAt_below (hat k hlt) hb
      have hmem := List.getElem_mem hlt
      have hcall := toHeat_any0 xs[k] wr ((HI.out _ hmem).below hb) (HSP.out _ hmem).1 (HSP.out _ hmem).2
      have hkm : k < (zs.map Ht.lst ++ List.replicate (xs.length - k) htZ).length := by simp; rw [HZL.out]; omega
      have HSET := Lib.hid (show ∀ p' : Ht, (zs.map Ht.lst ++ List.replicate (xs.length - k) htZ).set k p'.lst = (zs ++ [p']).map Ht.lst ++ List.replicate (xs.length - (k + 1)) htZ by
        intro p'
        have e : xs.length - k = (xs.length - (k + 1)) + 1 := by omega
        rw [List.set_append_right _ _ (by simp; rw [HZL.out]; exact Nat.le_refl _), e, List.replicate_succ]
        have e2 : k - (zs.map Ht.lst).length = 0 := by simp; rw [HZL.out]; omega
        rw [e2]; simp)
      clear hat hk
      go_wp2_with (first
        | ((with_reducible refine at_load_ 24 ?_); refine Ht.loadLaws rfl _ rfl b (off + k * 2) rfl xs[k] hr ?_)
        | (go_at_call 12; refine hcall.mono ?_; rintro e w2 ⟨p', rfl, hpk, hprow, hb2⟩; have hrow2 := hrow.below hb2)
        | (refine tyHt.store rfl _ _ rfl w.heap.size w.heap.size xs.length xs.length k _ _ p'.lst hrow2 hkm rfl rfl rfl rfl p'.one ?_; intro w3 hrow3 hg3))
      have hlen2 := hb2.size
      have hne : ∀ q, HtBlk p' q → wr.heap.size + 1 ≤ q := fun q hq => (hprow.lt q hq).1
      have hB3 := (hb.trans (hb2.mono hb.size)).grown hg3 (Nat.le_trans hb.size hb2.size) (by simp)
      have hz3 : w.heap.size < w3.heap.size := Nat.lt_of_lt_of_le hz (Nat.le_trans hb2.size hg3.size)
      have HKK := Lib.hid hpk
      rw [HSET.out] at hrow3
      go_roundw
      case rel => exact ⟨k + 1, zs ++ [p'], by omega, by simp; exact HZL.out, by go_num, by
        show _ = _
        rw [List.take_succ_eq_append_getElem hlt, List.map_append, List.map_append, HK.out]
        simp [HKK.out], hrow3, by
        intro z hz'
        rcases List.mem_append.1 hz' with hz' | hz'
        · have h1 := (HR.out z hz').below hb2
          exact h1.kept hg3 (fun q hq e => by have := (h1.lt q hq).1; simp only [Option.some.injEq] at e; omega)
        · rw [List.mem_singleton.1 hz']
          have h1 : HtR (w.heap.size + 1) w2 p' := hprow.mono (by omega)
          exact h1.kept hg3 (fun q hq e => by have := (h1.lt q hq).1; simp only [Option.some.injEq] at e; omega), by
        refine List.pairwise_append.2 ⟨HP.out, by simp, fun z hz' q hq => ?_⟩
        rw [List.mem_singleton.1 hq]
        intro g hg hg'
        have h1 := ((HR.out z hz').lt g hg).2
        have h2 := hne g hg'
        omega, hB3, hz3⟩
      case measure => simp [intOf]; omega
    · go_wp2
      go_ret
      obtain rfl : k = xs.length := by omega
      have e0 : xs.length - xs.length = 0 := by omega
      rw [e0, List.replicate_zero, List.append_nil] at hrow
      refine ⟨_, zs, rfl, by rw [HK.out, List.take_length], ⟨hrow, fun z hz' => ⟨(HR.out z hz').mono (by omega), fun q hq e => by have := ((HR.out z hz').lt _ hq).1; simp [Value.ownBlock] at e; omega⟩, HP.out⟩, hb⟩

set_option maxRecDepth 100000 in
set_option maxHeartbeats 1000000 in
theorem eqHeat_refl (p q : Ht) (w : World) (hk : p.k = q.k) (hp : p.In w) (hq : q.In w) :
    Calls Try.prog 15 #[p.val, q.val] w fun e w' => e = .returned (.bool true) ∧ Below w.heap.size w w' := by
  obtain ⟨⟨r, sp⟩, A, n, c, B, m, d⟩ := p
  obtain ⟨⟨r', sp'⟩, A', n', c', B', m', d'⟩ := q
  simp only [HK.mk.injEq] at hk
  obtain ⟨rfl, rfl⟩ := hk
  have h1 : Sl (Flat ints) 1 w (.slice A n c) r := hp.1
  have h2 : Sl (Flat ints) 1 w (.slice A' n' c') r := hq.1
  have h3 : Sl (Flat ints) 1 w (.slice B m d) sp := hp.2
  have h4 : Sl (Flat ints) 1 w (.slice B' m' d') sp := hq.2
  show Calls Try.prog 15 #[.agg #[.slice A n c, .slice B m d], .agg #[.slice A' n' c', .slice B' m' d']] w _
  have HC := Lib.hid (fun W (hW : Below w.heap.size w W) => eqIntS_refl r _ _ W (h1.below (Flat.keeps _) hW) (h2.below (Flat.keeps _) hW))
  have HC2 := Lib.hid (fun W (hW : Below w.heap.size w W) => eqIntS_refl sp _ _ W (h3.below (Flat.keeps _) hW) (h4.below (Flat.keeps _) hW))
  have hW : Below w.heap.size w ((w.alloc (.cells #[.slice A n c, .slice B m d] 28)).alloc (.cells #[.slice A' n' c', .slice B' m' d'] 28)) := by (repeat (first | exact Below.refl _ _ | assumption | refine Below.drew ?_ | refine Below.alloc ?_ (by first | exact Nat.le_refl _ | (simp; done) | (simp; omega)) _))
  have HL1 := Lib.hid ((LitAt.new w 28 [.slice A n c, .slice B m d] w.heap.size rfl).alloc (.cells #[.slice A' n' c', .slice B' m' d'] 28))
  have HL2 := Lib.hid (LitAt.new (w.alloc (.cells #[.slice A n c, .slice B m d] 28)) 28 [.slice A' n' c', .slice B' m' d'] (w.heap.size + 1) (by simp))
  clear hp hq h1 h2 h3 h4
  go_enter Try.func15, Try.ntmps15
  go_wp2_with fail
  refine (HC.out _ hW).mono ?_
  rintro e w1 ⟨rfl, hb1⟩
  have hc1 := (HL1.out.below hb1).range 1 _ rfl
  have hc2 := (HL2.out.below hb1).range 1 _ rfl
  simp only [Nat.zero_add] at hc1 hc2
  have HB1 := Lib.hid (step_ hW (Nat.le_refl _) hb1)
  clear hW
  go_wp2_with fail
  refine (HC2.out _ HB1.out).mono ?_
  rintro e w2 ⟨rfl, hb2⟩
  go_wp2
  go_ret
  exact ⟨rfl, step_ HB1.out (Nat.le_refl _) hb2⟩

set_option maxHeartbeats 1000000 in
theorem eqHeatS_refl (ps qs : List Ht) (v v' : Value) (w : World) (h : HtS w v ps) (h' : HtS w v' qs) (hkk : ps.map Ht.k = qs.map Ht.k) :
    Calls Try.prog 24 #[v, v'] w fun e w' => e = .returned (.bool true) ∧ Below w.heap.size w w' := by
  have hl : ps.length = qs.length := by have := congrArg List.length hkk; simpa using this
  have HKE := Lib.hid (show ∀ k (h1 : k < ps.length) (h2 : k < qs.length), ps[k].k = qs[k].k by
    intro k h1 h2
    have : (ps.map Ht.k)[k]? = (qs.map Ht.k)[k]? := by rw [hkk]
    simpa [h1, h2] using this)
  have HI := Lib.hid h.2
  have HI' := Lib.hid h'.2
  obtain ⟨A, c, rfl, hc, hm, hk⟩ := h.1.open_
  obtain ⟨A', c', rfl, hc', hm', hk'⟩ := h'.1.open_
  have HL := Lib.hid hl
  obtain ⟨n, hn⟩ : ∃ n, qs.length = n := ⟨_, rfl⟩
  have HN := Lib.hid hn
  have hpn : ps.length = n := by rw [hl, hn]
  rw [hn] at hc'
  rw [hpn] at hc
  clear h h' hkk hl
  rw [hn, hpn]
  have HP := Lib.hid hpn
  clear hn hpn
  go_enter Try.func24, Try.ntmps24
  go_wp2
  go_loopw [5] (fun i wr => ∃ k : Nat, k ≤ n ∧ i = .int .i64 k ∧ Below w.heap.size w wr)
    (fun i _ => n - (intOf i).toNat)
  case atStart => exact ⟨0, Nat.zero_le _, rfl, Below.refl _ _⟩
  case round =>
    obtain ⟨k, hkl, rfl, hb⟩ := hrel
    by_cases hlt : k < n
    · have hlp : k < ps.length := by rw [HP.out]; exact hlt
      have hlq : k < qs.length := by rw [HN.out]; exact hlt
      obtain ⟨b, off, rfl, hat⟩ := flat_at hk (by omega)
      obtain ⟨b', off', rfl, hat'⟩ := flat_at hk' (by omega)
      have hr := rangeAt_below (hat k hlp) hb
      have hr' := rangeAt_below (hat' k hlq) hb
      have HC := Lib.hid (fun (s : After wr) => eqHeat_refl ps[k] qs[k] s.w' (HKE.out k hlp hlq) (((HI.out _ (List.getElem_mem hlp)).below hb).below s.hb) (((HI'.out _ (List.getElem_mem hlq)).below hb).below s.hb))
      clear hat hat' hk hk'
      go_wp2
      refine region_after (by kernel_rfl) (by kernel_rfl) ?_
      repeat (any_goals (first | go_big_quiet_step (((go_at_call 15; exact Calls.after (v := .bool true) _ (HC.out _)))) | (refine Ht.qloadImpl rfl _ rfl b (off + k * 2) rfl ps[k] hr ?_) | (refine Ht.qloadImpl rfl _ rfl b' (off' + k * 2) rfl qs[k] hr' ?_) | quiet_step (((go_at_call 15; exact Calls.after (v := .bool true) _ (HC.out _)))) | (refine wpQuiet_step (fun K hK => ?_); go_simp; split <;> (refine hK _ ?_; clear hK K))))
      all_goals (refine wpQuiet_nil ?_; intro s)
      go_wp2
      go_roundw
      case rel => exact ⟨k + 1, by omega, by go_num, step_ hb (Nat.le_refl _) s.hb⟩
      case measure => simp [intOf]; omega
    · go_wp2
      go_ret
      exact ⟨rfl, hb⟩
end Go.Proofs.Ytabgmbmaakglkaa
