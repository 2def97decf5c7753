/- The walks of MakeProtest, of the program and of the reference. No condition. -/
import Derived.Test.YtabihggfnofcbaaAbout
namespace Go.Proofs.Ytabihggfnofcbaa
open Go Go.RowKit

def nextId (x : List Prot) : Int := if h : 0 < x.length then x[x.length - 1].id + 1 else 1
def newP (x : List Prot) (by_ ag t : Int) : Prot := ⟨nextId x, ag, by_, t, 0, 0⟩
noncomputable def mkOk (x : List Prot) (by_ ag t : Int) : Bool := good x && good (x ++ [newP x by_ ag t])
noncomputable def mkOut (x : List Prot) (by_ ag t : Int) : List Prot := if mkOk x by_ ag t = true then x ++ [newP x by_ ag t] else []
noncomputable def mkId (x : List Prot) (by_ ag t : Int) : Int := if mkOk x by_ ag t = true then nextId x else 0
theorem mkOut_len (x : List Prot) (by_ ag t : Int) : (mkOut x by_ ag t).length ≤ 10 := by
  unfold mkOut
  split
  · rename_i h
    simp only [mkOk, Bool.and_eq_true] at h
    exact (good_iff.1 h.2).2
  · simp
theorem mk_true {x : List Prot} {by_ ag t : Int} (h1 : good x = true) (h2 : good (x ++ [newP x by_ ag t]) = true) : mkOk x by_ ag t = true ∧ mkOut x by_ ag t = x ++ [newP x by_ ag t] ∧ mkId x by_ ag t = nextId x := by
  have h : mkOk x by_ ag t = true := by simp [mkOk, h1, h2]
  simp [mkOut, mkId, h]
theorem mk_false {x : List Prot} {by_ ag t : Int} (h1 : good x = false ∨ good (x ++ [newP x by_ ag t]) = false) : mkOk x by_ ag t = false ∧ mkOut x by_ ag t = [] ∧ mkId x by_ ag t = 0 := by
  have h : mkOk x by_ ag t = false := by rcases h1 with h | h <;> simp [mkOk, h]
  simp [mkOut, mkId, h]
theorem flat_snoc (x : List Prot) (p : Prot) : ([] ++ x.map Prot.lst) ++ [p.lst] = (x ++ [p]).map Prot.lst := by simp

set_option maxHeartbeats 1000000 in
theorem impl_MakeProtest (x : List Prot) (v : Value) (by_ ag t : Int) (w : World) (h : Sl (Flat Prot.lst) 6 w v x) (_ : ∀ p ∈ x, Prot.ok p) (_ : I64 by_) (_ : I64 ag) (_ : I64 t) (_ : x.length ≤ 1048576) :
    Calls Try.prog 27 #[v, .int .i64 by_, .int .i64 ag, .int .i64 t] w fun e w' => ∃ r, e = .returned (.tuple #[r, .int .i64 (mkId x by_ ag t), .bool (mkOk x by_ ag t)]) ∧ Row w.heap.size 25 6 w' r ((mkOut x by_ ag t).map Prot.lst) ∧ Below w.heap.size w w' := by
  by_cases hg : good x = true
  rotate_left
  · have hg' : good x = false := by simpa using hg
    obtain ⟨e1, e2, e3⟩ := mk_false (by_ := by_) (ag := ag) (t := t) (.inl hg')
    rw [e1, e2, e3]
    clear e1 e2 e3 hg
    go_enter Try.func27, Try.ntmps27
    go_wp2_with (go_at_call 22; refine (areProtests_any x _ _ h).mono ?_; rintro e w1 ⟨rfl, hb1⟩)
    go_ret3
    exact ⟨_, rfl, Row.nil _ _ _ _, hb1⟩
  · have hn := (good_iff.1 hg).2
    obtain ⟨b2, hb2'⟩ : ∃ b, good (x ++ [newP x by_ ag t]) = b := ⟨_, rfl⟩
    have HB2 := Lib.hid hb2'
    have HG := Lib.hid hg
    have hn1 := Lib.hid (show ([] : List (List Value)).length + x.length ≤ 2147483648 by simp; omega)
    have hn2 := Lib.hid (show ([] ++ x.map Prot.lst).length + 1 ≤ 2147483648 by simp; omega)
    by_cases hx : 0 < x.length
    · skip
      have bd := (specOne_bounds (good_at hg (show x.length - 1 < x.length by omega))).1
      have HP := Lib.hid (show newP x by_ ag t = (⟨x[x.length - 1].id + 1, ag, by_, t, 0, 0⟩ : Prot) by simp [newP, nextId, hx])
      have HI := Lib.hid (show nextId x = x[x.length - 1].id + 1 by simp [nextId, hx])
      have bd1 := bd.1
      have bd2 := bd.2
      clear hg bd
      obtain ⟨A, c, rfl, hc, hm, hk⟩ := h.open_
      obtain ⟨b, off, rfl, hat⟩ := flat_at hk hx
      have hcs := Prot.cellsOld (hat (x.length - 1) (by omega))
      clear hat hk
      go_enter Try.func27, Try.ntmps27
      go_wp2_with fail
      refine (areProtests_any x _ _ h).mono ?_
      rintro e w1 ⟨rfl, hb1⟩
      rw [HG.out]
      have hcs1 := hcs ⟨w1, hb1⟩
      simp only at hcs1
      clear hcs
      have h1 := h.below (Flat.keeps _) hb1
      go_wp2_with (first
        | (at_builtin; refine tyProt.append rfl _ _ rfl w.heap.size (.slice (some ⟨w1.heap.size, 0, none⟩) 0 0) [] rfl (Row.lit_nil w1 _ _ hb1.size) _ x.length _ (x.map Prot.lst) rfl (Src.of_sl (h1.below (Flat.keeps _) (Below.alloc (Below.refl _ _) (Nat.le_refl _) _)) Prot.lst_len Prot.one) hn1.out (by have h := hb1.size; simp at h ⊢; omega) ?_; intro v2 w2 row2 hg2 hat2; have hB2 := (hb1.alloc hb1.size _).grown hg2 (by have h := hb1.size; simp at h ⊢; omega) (fun q hq => by simp [Value.ownBlock] at hq; have h := hb1.size; omega))
        | (at_builtin; refine tyProt.append rfl _ _ rfl w.heap.size v2 _ rfl (row2.alloc _) _ 1 1 [Prot.lst (⟨x[x.length - 1].id + 1, ag, by_, t, 0, 0⟩ : Prot)] rfl (Src.one_at _ _ (Prot.lst (⟨x[x.length - 1].id + 1, ag, by_, t, 0, 0⟩ : Prot)) _ (by first | rfl | simp) (Prot.one _)) hn2.out (by have h := hB2.size; simp at h ⊢; omega) ?_; intro v3 w3 row3 hg3 hat3; have hB3 := (hB2.alloc hB2.size _).grown hg3 (by have h := hB2.size; simp at h ⊢; omega) (fun q hq => (row2.lt q hq).1); rw [← HP.out, flat_snoc] at row3))
      refine (areProtests_any (x ++ [newP x by_ ag t]) _ _ (Sl.of_flat row3)).mono ?_
      rintro e w4 ⟨rfl, hb4⟩
      have hB4 := step_ hB3 (Nat.le_refl _) hb4
      cases b2 with
      | true =>
        rw [HB2.out]
        go_wp2
        go_ret3
        obtain ⟨e1, e2, e3⟩ := mk_true HG.out HB2.out
        rw [e1, e2, e3, HI.out]
        exact ⟨_, rfl, row3.below hb4, hB4⟩
      | false =>
        rw [HB2.out]
        go_wp2
        go_ret3
        obtain ⟨e1, e2, e3⟩ := mk_false (.inr HB2.out)
        rw [e1, e2, e3]
        exact ⟨_, rfl, Row.nil _ _ _ _, hB4⟩
    · skip
      have HP := Lib.hid (show newP x by_ ag t = (⟨1, ag, by_, t, 0, 0⟩ : Prot) by simp [newP, nextId, hx])
      have HI := Lib.hid (show nextId x = 1 by simp [nextId, hx])
      clear hg
      obtain ⟨A, c, rfl, hc, hm, hk⟩ := h.open_
      clear hk
      go_enter Try.func27, Try.ntmps27
      go_wp2_with fail
      refine (areProtests_any x _ _ h).mono ?_
      rintro e w1 ⟨rfl, hb1⟩
      rw [HG.out]
      have h1 := h.below (Flat.keeps _) hb1
      go_wp2_with (first
        | (at_builtin; refine tyProt.append rfl _ _ rfl w.heap.size (.slice (some ⟨w1.heap.size, 0, none⟩) 0 0) [] rfl (Row.lit_nil w1 _ _ hb1.size) _ x.length _ (x.map Prot.lst) rfl (Src.of_sl (h1.below (Flat.keeps _) (Below.alloc (Below.refl _ _) (Nat.le_refl _) _)) Prot.lst_len Prot.one) hn1.out (by have h := hb1.size; simp at h ⊢; omega) ?_; intro v2 w2 row2 hg2 hat2; have hB2 := (hb1.alloc hb1.size _).grown hg2 (by have h := hb1.size; simp at h ⊢; omega) (fun q hq => by simp [Value.ownBlock] at hq; have h := hb1.size; omega))
        | (at_builtin; refine tyProt.append rfl _ _ rfl w.heap.size v2 _ rfl (row2.alloc _) _ 1 1 [Prot.lst (⟨1, ag, by_, t, 0, 0⟩ : Prot)] rfl (Src.one_at _ _ (Prot.lst (⟨1, ag, by_, t, 0, 0⟩ : Prot)) _ (by first | rfl | simp) (Prot.one _)) hn2.out (by have h := hB2.size; simp at h ⊢; omega) ?_; intro v3 w3 row3 hg3 hat3; have hB3 := (hB2.alloc hB2.size _).grown hg3 (by have h := hB2.size; simp at h ⊢; omega) (fun q hq => (row2.lt q hq).1); rw [← HP.out, flat_snoc] at row3))
      refine (areProtests_any (x ++ [newP x by_ ag t]) _ _ (Sl.of_flat row3)).mono ?_
      rintro e w4 ⟨rfl, hb4⟩
      have hB4 := step_ hB3 (Nat.le_refl _) hb4
      cases b2 with
      | true =>
        rw [HB2.out]
        go_wp2
        go_ret3
        obtain ⟨e1, e2, e3⟩ := mk_true HG.out HB2.out
        rw [e1, e2, e3, HI.out]
        exact ⟨_, rfl, row3.below hb4, hB4⟩
      | false =>
        rw [HB2.out]
        go_wp2
        go_ret3
        obtain ⟨e1, e2, e3⟩ := mk_false (.inr HB2.out)
        rw [e1, e2, e3]
        exact ⟨_, rfl, Row.nil _ _ _ _, hB4⟩

set_option maxHeartbeats 1000000 in
theorem spec_MakeProtest (x : List Prot) (v : Value) (by_ ag t : Int) (w : World) (h : Sl (Flat Prot.lst) 6 w v x) (_ : ∀ p ∈ x, Prot.ok p) (_ : I64 by_) (_ : I64 ag) (_ : I64 t) (hn : x.length ≤ 1048576) :
    Calls Try.prog 26 #[v, .int .i64 by_, .int .i64 ag, .int .i64 t] w fun e w' => ∃ r, e = .returned (.tuple #[r, .int .i64 (mkId x by_ ag t), .bool (mkOk x by_ ag t)]) ∧ Row w.heap.size 25 6 w' r ((mkOut x by_ ag t).map Prot.lst) ∧ Below w.heap.size w w' := by
  by_cases hg : good x = true
  rotate_left
  · have hg' : good x = false := by simpa using hg
    obtain ⟨e1, e2, e3⟩ := mk_false (by_ := by_) (ag := ag) (t := t) (.inl hg')
    rw [e1, e2, e3]
    clear e1 e2 e3 hg
    have hn1 := Lib.hid (show ([] : List (List Value)).length + x.length ≤ 2147483648 by simp; omega)
    have hn2 := Lib.hid (show ([] ++ x.map Prot.lst).length + 1 ≤ 2147483648 by simp; omega)
    by_cases hx : 0 < x.length
    · skip
      obtain ⟨A, c, rfl, hc, hm, hk⟩ := h.open_
      obtain ⟨b, off, rfl, hat⟩ := flat_at hk hx
      have hcs := Prot.cells (hat (x.length - 1) (by omega))
      clear hat hk
      go_enter Try.func26, Try.ntmps26
      go_wp2_with (first
        | (at_builtin; refine tyProt.append rfl _ _ rfl w.heap.size (.slice (some ⟨w.heap.size, 0, none⟩) 0 0) [] rfl (Row.lit_nil w _ _ (Nat.le_refl _)) _ x.length _ (x.map Prot.lst) rfl (Src.of_sl (h.below (Flat.keeps _) (Below.alloc (Below.refl _ _) (Nat.le_refl _) _)) Prot.lst_len Prot.one) hn1.out (by simp) ?_; intro v2 w2 row2 hg2 hat2; have hB2 := (Below.alloc (Below.refl _ _) (Nat.le_refl _) _).grown hg2 (by simp) (fun q hq => by simp [Value.ownBlock] at hq; omega))
        | (at_builtin; refine tyProt.append rfl _ _ rfl w.heap.size v2 _ rfl (row2.alloc _) _ 1 1 [[_, _, _, _, _, _]] rfl (Src.one_at _ _ [_, _, _, _, _, _] _ (by first | rfl | simp) (by simp [Value.oneCell'])) hn2.out (by have h := hB2.size; simp at h ⊢; omega) ?_; intro v3 w3 row3 hg3 hat3; have hB3 := (hB2.alloc hB2.size _).grown hg3 (by have h := hB2.size; simp at h ⊢; omega) (fun q hq => (row2.lt q hq).1)))
      refine (l22Good_any x _ _ (h.below (Flat.keeps _) hB3)).mono ?_
      rintro e w5 ⟨rfl, hb5⟩
      rw [hg']
      have hB5 := step_ hB3 (Nat.le_refl _) hb5
      go_wp2
      go_ret3
      exact ⟨_, rfl, Row.lit_nil w5 _ _ hB5.size, hB5.alloc hB5.size _⟩
    · skip
      obtain ⟨A, c, rfl, hc, hm, hk⟩ := h.open_
      clear hk
      go_enter Try.func26, Try.ntmps26
      go_wp2_with (first
        | (at_builtin; refine tyProt.append rfl _ _ rfl w.heap.size (.slice (some ⟨w.heap.size, 0, none⟩) 0 0) [] rfl (Row.lit_nil w _ _ (Nat.le_refl _)) _ x.length _ (x.map Prot.lst) rfl (Src.of_sl (h.below (Flat.keeps _) (Below.alloc (Below.refl _ _) (Nat.le_refl _) _)) Prot.lst_len Prot.one) hn1.out (by simp) ?_; intro v2 w2 row2 hg2 hat2; have hB2 := (Below.alloc (Below.refl _ _) (Nat.le_refl _) _).grown hg2 (by simp) (fun q hq => by simp [Value.ownBlock] at hq; omega))
        | (at_builtin; refine tyProt.append rfl _ _ rfl w.heap.size v2 _ rfl (row2.alloc _) _ 1 1 [[_, _, _, _, _, _]] rfl (Src.one_at _ _ [_, _, _, _, _, _] _ (by first | rfl | simp) (by simp [Value.oneCell'])) hn2.out (by have h := hB2.size; simp at h ⊢; omega) ?_; intro v3 w3 row3 hg3 hat3; have hB3 := (hB2.alloc hB2.size _).grown hg3 (by have h := hB2.size; simp at h ⊢; omega) (fun q hq => (row2.lt q hq).1)))
      refine (l22Good_any x _ _ (h.below (Flat.keeps _) hB3)).mono ?_
      rintro e w5 ⟨rfl, hb5⟩
      rw [hg']
      have hB5 := step_ hB3 (Nat.le_refl _) hb5
      go_wp2
      go_ret3
      exact ⟨_, rfl, Row.lit_nil w5 _ _ hB5.size, hB5.alloc hB5.size _⟩
  · have hn := (good_iff.1 hg).2
    obtain ⟨b2, hb2'⟩ : ∃ b, good (x ++ [newP x by_ ag t]) = b := ⟨_, rfl⟩
    have HB2 := Lib.hid hb2'
    have HG := Lib.hid hg
    have hn1 := Lib.hid (show ([] : List (List Value)).length + x.length ≤ 2147483648 by simp; omega)
    have hn2 := Lib.hid (show ([] ++ x.map Prot.lst).length + 1 ≤ 2147483648 by simp; omega)
    by_cases hx : 0 < x.length
    · skip
      have bd := (specOne_bounds (good_at hg (show x.length - 1 < x.length by omega))).1
      have HP := Lib.hid (show newP x by_ ag t = (⟨x[x.length - 1].id + 1, ag, by_, t, 0, 0⟩ : Prot) by simp [newP, nextId, hx])
      have HI := Lib.hid (show nextId x = x[x.length - 1].id + 1 by simp [nextId, hx])
      have bd1 := bd.1
      have bd2 := bd.2
      clear hg bd
      obtain ⟨A, c, rfl, hc, hm, hk⟩ := h.open_
      obtain ⟨b, off, rfl, hat⟩ := flat_at hk hx
      have hcs := Prot.cellsOld (hat (x.length - 1) (by omega))
      clear hat hk
      go_enter Try.func26, Try.ntmps26
      have hcs1 := hcs ⟨w, Below.refl _ _⟩
      simp only at hcs1
      clear hcs
      have hb1 := Below.refl w.heap.size w
      have h1 := h
      go_wp2_with (first
        | (at_builtin; refine tyProt.append rfl _ _ rfl w.heap.size (.slice (some ⟨w.heap.size, 0, none⟩) 0 0) [] rfl (Row.lit_nil w _ _ hb1.size) _ x.length _ (x.map Prot.lst) rfl (Src.of_sl (h1.below (Flat.keeps _) (Below.alloc (Below.refl _ _) (Nat.le_refl _) _)) Prot.lst_len Prot.one) hn1.out (by simp) ?_; intro v2 w2 row2 hg2 hat2; have hB2 := (hb1.alloc hb1.size _).grown hg2 (by simp) (fun q hq => by simp [Value.ownBlock] at hq; omega))
        | (at_builtin; refine tyProt.append rfl _ _ rfl w.heap.size v2 _ rfl (row2.alloc _) _ 1 1 [Prot.lst (⟨x[x.length - 1].id + 1, ag, by_, t, 0, 0⟩ : Prot)] rfl (Src.one_at _ _ (Prot.lst (⟨x[x.length - 1].id + 1, ag, by_, t, 0, 0⟩ : Prot)) _ (by first | rfl | simp) (Prot.one _)) hn2.out (by have h := hB2.size; simp at h ⊢; omega) ?_; intro v3 w3 row3 hg3 hat3; have hB3 := (hB2.alloc hB2.size _).grown hg3 (by have h := hB2.size; simp at h ⊢; omega) (fun q hq => (row2.lt q hq).1); rw [← HP.out, flat_snoc] at row3))
      refine (l22Good_any x _ _ (h.below (Flat.keeps _) hB3)).mono ?_
      rintro e w5 ⟨rfl, hb5⟩
      rw [HG.out]
      have hB5 := step_ hB3 (Nat.le_refl _) hb5
      have row3 := row3.below hb5
      go_wp2_with fail
      refine (l22Good_any (x ++ [newP x by_ ag t]) _ _ (Sl.of_flat row3)).mono ?_
      rintro e w4 ⟨rfl, hb4⟩
      have hB4 := step_ hB5 (Nat.le_refl _) hb4
      cases b2 with
      | true =>
        rw [HB2.out]
        go_wp2
        go_ret3
        obtain ⟨e1, e2, e3⟩ := mk_true HG.out HB2.out
        rw [e1, e2, e3, HI.out]
        exact ⟨_, rfl, row3.below hb4, hB4⟩
      | false =>
        rw [HB2.out]
        go_wp2
        go_ret3
        obtain ⟨e1, e2, e3⟩ := mk_false (.inr HB2.out)
        rw [e1, e2, e3]
        exact ⟨_, rfl, Row.lit_nil w4 _ _ (by have h := hB4.size; exact h), hB4.alloc hB4.size _⟩
    · skip
      have HP := Lib.hid (show newP x by_ ag t = (⟨1, ag, by_, t, 0, 0⟩ : Prot) by simp [newP, nextId, hx])
      have HI := Lib.hid (show nextId x = 1 by simp [nextId, hx])
      clear hg
      obtain ⟨A, c, rfl, hc, hm, hk⟩ := h.open_
      clear hk
      go_enter Try.func26, Try.ntmps26
      have hb1 := Below.refl w.heap.size w
      have h1 := h
      go_wp2_with (first
        | (at_builtin; refine tyProt.append rfl _ _ rfl w.heap.size (.slice (some ⟨w.heap.size, 0, none⟩) 0 0) [] rfl (Row.lit_nil w _ _ hb1.size) _ x.length _ (x.map Prot.lst) rfl (Src.of_sl (h1.below (Flat.keeps _) (Below.alloc (Below.refl _ _) (Nat.le_refl _) _)) Prot.lst_len Prot.one) hn1.out (by simp) ?_; intro v2 w2 row2 hg2 hat2; have hB2 := (hb1.alloc hb1.size _).grown hg2 (by simp) (fun q hq => by simp [Value.ownBlock] at hq; omega))
        | (at_builtin; refine tyProt.append rfl _ _ rfl w.heap.size v2 _ rfl (row2.alloc _) _ 1 1 [Prot.lst (⟨1, ag, by_, t, 0, 0⟩ : Prot)] rfl (Src.one_at _ _ (Prot.lst (⟨1, ag, by_, t, 0, 0⟩ : Prot)) _ (by first | rfl | simp) (Prot.one _)) hn2.out (by have h := hB2.size; simp at h ⊢; omega) ?_; intro v3 w3 row3 hg3 hat3; have hB3 := (hB2.alloc hB2.size _).grown hg3 (by have h := hB2.size; simp at h ⊢; omega) (fun q hq => (row2.lt q hq).1); rw [← HP.out, flat_snoc] at row3))
      refine (l22Good_any x _ _ (h.below (Flat.keeps _) hB3)).mono ?_
      rintro e w5 ⟨rfl, hb5⟩
      rw [HG.out]
      have hB5 := step_ hB3 (Nat.le_refl _) hb5
      have row3 := row3.below hb5
      go_wp2_with fail
      refine (l22Good_any (x ++ [newP x by_ ag t]) _ _ (Sl.of_flat row3)).mono ?_
      rintro e w4 ⟨rfl, hb4⟩
      have hB4 := step_ hB5 (Nat.le_refl _) hb4
      cases b2 with
      | true =>
        rw [HB2.out]
        go_wp2
        go_ret3
        obtain ⟨e1, e2, e3⟩ := mk_true HG.out HB2.out
        rw [e1, e2, e3, HI.out]
        exact ⟨_, rfl, row3.below hb4, hB4⟩
      | false =>
        rw [HB2.out]
        go_wp2
        go_ret3
        obtain ⟨e1, e2, e3⟩ := mk_false (.inr HB2.out)
        rw [e1, e2, e3]
        exact ⟨_, rfl, Row.lit_nil w4 _ _ (by have h := hB4.size; exact h), hB4.alloc hB4.size _⟩
end Go.Proofs.Ytabihggfnofcbaa
