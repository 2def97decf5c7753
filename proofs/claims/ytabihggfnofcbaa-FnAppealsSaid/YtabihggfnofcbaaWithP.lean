/- The walk of withProtest, for each of the four changes. No condition. -/
import Derived.Test.YtabihggfnofcbaaWithImpl
namespace Go.Proofs.Ytabihggfnofcbaa
open Go Go.RowKit

set_option maxHeartbeats 2000000 in
theorem withProtest_76 (c : Prot → Bool) (f : Prot → Prot) (sts : List Int) (x : List Prot) (v vs : Value) (id : Int) (w : World) (h : Sl (Flat Prot.lst) 6 w v x) (hst : Sl (Flat ints) 1 w vs sts)
    (hcs : ∀ p : Prot, c p = sts.any (fun y => p.state == y))
    (hf : ∀ (W : World) (g n cap k : Nat) (hk : k < x.length), Below w.heap.size w W → Row w.heap.size 25 6 W (.slice (some ⟨g, 0, none⟩) n cap) (x.map Prot.lst) → good x = true → c x[k] = true →
      Calls Try.prog 76 #[.pointer (some ⟨g, k * 6, none⟩)] W fun e W' => e = .returned (.tuple #[]) ∧ Row w.heap.size 25 6 W' (.slice (some ⟨g, 0, none⟩) n cap) ((x.set k (f x[k])).map Prot.lst) ∧ W.grownBy W' (some g)) :
    Calls Try.prog 75 #[v, .int .i64 id, vs, .func (.func 76) #[] #[]] w fun e w' => ∃ r, e = .returned (.tuple #[r, .bool (wOk x id c f)]) ∧ Row w.heap.size 25 6 w' r ((wOut x id c f).map Prot.lst) ∧ Below w.heap.size w w' := by
  have HC := Lib.hid hcs
  have HF := Lib.hid hf
  clear hcs hf
  have hB0 : Below w.heap.size w (w.alloc (.cells #[.int .i64 id] 3)) := by (repeat (first | exact Below.refl _ _ | assumption | refine Below.drew ?_ | refine Below.alloc ?_ (by first | exact Nat.le_refl _ | (simp; done) | (simp; omega)) _))
  have hc0 : (w.alloc (.cells #[.int .i64 id] 3)).cell? ⟨w.heap.size, 0, none⟩ = some (.int .i64 id) := rangeAt_new w [.int .i64 id] 3 0 _ rfl
  by_cases hg : good x = true
  rotate_left
  · have hg' : good x = false := by simpa using hg
    obtain ⟨e1, e2⟩ := with_bad (id := id) (c := c) (f := f) hg'
    rw [e1, e2]
    clear e1 e2 hg
    go_enter Try.func75, Try.ntmps75
    go_wp2_with fail
    generalize w.alloc (.cells #[.int .i64 id] 3) = W0 at hB0 hc0 ⊢
    refine (indexFunc_93 _ (hasId id) x _ _ (h.below (Flat.keeps _) hB0) (fun s k hk => hasId_93 x[k] id _ _ _ (After.keep hc0 s))).mono ?_
    rintro e w1 ⟨rfl, hb1⟩
    have hB1 := step_ hB0 (Nat.le_refl _) hb1
    go_wp2_with (go_at_call 22; refine (areProtests_any x _ _ (h.below (Flat.keeps _) hB1)).mono ?_; rintro e w2 ⟨rfl, hb2⟩)
    go_ret2
    exact ⟨_, rfl, Row.nil _ _ _ _, step_ hB1 (Nat.le_refl _) hb2⟩
  have hn := (good_iff.1 hg).2
  have HG := Lib.hid hg
  rcases find_cases x id with ⟨hfd, hi⟩ | ⟨k, hk, hfd, hi⟩
  · obtain ⟨e1, e2⟩ := with_none (c := c) (f := f) hfd
    rw [e1, e2]
    clear e1 e2 hfd hg
    go_enter Try.func75, Try.ntmps75
    go_wp2_with fail
    generalize w.alloc (.cells #[.int .i64 id] 3) = W0 at hB0 hc0 ⊢
    refine (indexFunc_93 _ (hasId id) x _ _ (h.below (Flat.keeps _) hB0) (fun s k hk => hasId_93 x[k] id _ _ _ (After.keep hc0 s))).mono ?_
    rintro e w1 ⟨rfl, hb1⟩
    rw [hi]
    have hB1 := step_ hB0 (Nat.le_refl _) hb1
    go_wp2_with (go_at_call 22; refine (areProtests_any x _ _ (h.below (Flat.keeps _) hB1)).mono ?_; rintro e w2 ⟨rfl, hb2⟩; rw [HG.out])
    go_ret2
    exact ⟨_, rfl, Row.nil _ _ _ _, step_ hB1 (Nat.le_refl _) hb2⟩
  have HD := Lib.hid hfd
  have HI := Lib.hid hi
  clear hfd hi hg
  have hn1 := Lib.hid (show ([] : List (List Value)).length + x.length ≤ 2147483648 by simp; omega)
  obtain ⟨A, cc, rfl, hcc, hm, hk0⟩ := h.open_
  obtain ⟨b, off, rfl, hat⟩ := flat_at hk0 (by omega)
  have hcl := Prot.cellsOld (hat k hk)
  clear hat hk0
  obtain ⟨cb, hcb⟩ : ∃ cb, c x[k] = cb := ⟨_, rfl⟩
  have HCB := Lib.hid hcb
  have HA := Lib.hid (show sts.any (fun y => x[k].state == y) = cb by rw [← hcb, HC.out])
  clear hcb
  go_enter Try.func75, Try.ntmps75
  go_wp2_with fail
  generalize w.alloc (.cells #[.int .i64 id] 3) = W0 at hB0 hc0 ⊢
  refine (indexFunc_93 _ (hasId id) x _ _ (h.below (Flat.keeps _) hB0) (fun s k hk => hasId_93 x[k] id _ _ _ (After.keep hc0 s))).mono ?_
  rintro e w1 ⟨rfl, hb1⟩
  rw [HI.out]
  have hB1 := step_ hB0 (Nat.le_refl _) hb1
  go_wp2_with fail
  refine (areProtests_any x _ _ (h.below (Flat.keeps _) hB1)).mono ?_
  rintro e w2 ⟨rfl, hb2⟩
  rw [HG.out]
  have hB2 := step_ hB1 (Nat.le_refl _) hb2
  have hcl2 := hcl ⟨w2, hB2⟩
  simp only at hcl2
  have h2 := h.below (Flat.keeps _) hB2
  clear hcl
  go_wp2_with fail
  refine (containsIntP_any sts vs _ _ (hst.below (Flat.keeps _) hB2)).mono ?_
  rintro e w' ⟨rfl, rfl⟩
  rw [HA.out]
  cases cb with
  | false =>
    go_wp2
    go_ret2
    obtain ⟨e1, e2⟩ := with_unfit (f := f) hk HD.out HCB.out
    rw [e1, e2]
    exact ⟨_, rfl, Row.nil _ _ _ _, hB2⟩
  | true =>
    go_wp2_with (at_builtin; refine tyProt.append rfl _ _ rfl w.heap.size (.slice (some ⟨w2.heap.size, 0, none⟩) 0 0) [] rfl (Row.lit_nil w2 _ _ hB2.size) _ x.length _ (x.map Prot.lst) rfl (Src.of_sl (h2.below (Flat.keeps _) (Below.alloc (Below.refl _ _) (Nat.le_refl _) _)) Prot.lst_len Prot.one) hn1.out (by have h := hB2.size; simp at h ⊢; omega) ?_; intro v3 w3 row3 hg3 hat3; have hB3 := (hB2.alloc hB2.size _).grown hg3 (by have h := hB2.size; simp at h ⊢; omega) (fun q hq => by simp [Value.ownBlock] at hq; have h := hB2.size; omega); rw [List.nil_append] at row3; obtain ⟨g, cap, rfl, hgb, hgl, hgc⟩ := row3.form (by simp; omega); simp only [List.length_map] at row3 hgc)
    refine (HF.out w3 g x.length cap k hk hB3 row3 HG.out HCB.out).mono ?_
    rintro e w4 ⟨rfl, row4, hg4⟩
    have hB4 := hB3.grown hg4 hB3.size (fun q hq => by simp at hq; omega)
    go_wp2_with fail
    refine (areProtests_any _ _ _ (Sl.of_flat row4)).mono ?_
    rintro e w5 ⟨rfl, hb5⟩
    have hB5 := step_ hB4 (Nat.le_refl _) hb5
    obtain ⟨b2, hgb2⟩ : ∃ b2, good (x.set k (f x[k])) = b2 := ⟨_, rfl⟩
    rw [hgb2]
    have HB := Lib.hid hgb2
    clear hgb2
    cases b2 with
    | true =>
      go_wp2
      go_ret2
      obtain ⟨e1, e2⟩ := with_fit (f := f) hk HD.out HG.out HCB.out HB.out
      rw [e1, e2]
      exact ⟨_, rfl, row4.below hb5, hB5⟩
    | false =>
      go_wp2
      go_ret2
      obtain ⟨e1, e2⟩ := with_after (c := c) (f := f) hk HD.out HB.out
      rw [e1, e2]
      exact ⟨_, rfl, Row.nil _ _ _ _, hB5⟩

set_option maxHeartbeats 2000000 in
theorem withProtest_80 (c : Prot → Bool) (f : Prot → Prot) (sts : List Int) (x : List Prot) (v vs : Value) (id : Int) (w : World) (h : Sl (Flat Prot.lst) 6 w v x) (hst : Sl (Flat ints) 1 w vs sts)
    (hcs : ∀ p : Prot, c p = sts.any (fun y => p.state == y))
    (hf : ∀ (W : World) (g n cap k : Nat) (hk : k < x.length), Below w.heap.size w W → Row w.heap.size 25 6 W (.slice (some ⟨g, 0, none⟩) n cap) (x.map Prot.lst) → good x = true → c x[k] = true →
      Calls Try.prog 80 #[.pointer (some ⟨g, k * 6, none⟩)] W fun e W' => e = .returned (.tuple #[]) ∧ Row w.heap.size 25 6 W' (.slice (some ⟨g, 0, none⟩) n cap) ((x.set k (f x[k])).map Prot.lst) ∧ W.grownBy W' (some g)) :
    Calls Try.prog 75 #[v, .int .i64 id, vs, .func (.func 80) #[] #[]] w fun e w' => ∃ r, e = .returned (.tuple #[r, .bool (wOk x id c f)]) ∧ Row w.heap.size 25 6 w' r ((wOut x id c f).map Prot.lst) ∧ Below w.heap.size w w' := by
  have HC := Lib.hid hcs
  have HF := Lib.hid hf
  clear hcs hf
  have hB0 : Below w.heap.size w (w.alloc (.cells #[.int .i64 id] 3)) := by (repeat (first | exact Below.refl _ _ | assumption | refine Below.drew ?_ | refine Below.alloc ?_ (by first | exact Nat.le_refl _ | (simp; done) | (simp; omega)) _))
  have hc0 : (w.alloc (.cells #[.int .i64 id] 3)).cell? ⟨w.heap.size, 0, none⟩ = some (.int .i64 id) := rangeAt_new w [.int .i64 id] 3 0 _ rfl
  by_cases hg : good x = true
  rotate_left
  · have hg' : good x = false := by simpa using hg
    obtain ⟨e1, e2⟩ := with_bad (id := id) (c := c) (f := f) hg'
    rw [e1, e2]
    clear e1 e2 hg
    go_enter Try.func75, Try.ntmps75
    go_wp2_with fail
    generalize w.alloc (.cells #[.int .i64 id] 3) = W0 at hB0 hc0 ⊢
    refine (indexFunc_93 _ (hasId id) x _ _ (h.below (Flat.keeps _) hB0) (fun s k hk => hasId_93 x[k] id _ _ _ (After.keep hc0 s))).mono ?_
    rintro e w1 ⟨rfl, hb1⟩
    have hB1 := step_ hB0 (Nat.le_refl _) hb1
    go_wp2_with (go_at_call 22; refine (areProtests_any x _ _ (h.below (Flat.keeps _) hB1)).mono ?_; rintro e w2 ⟨rfl, hb2⟩)
    go_ret2
    exact ⟨_, rfl, Row.nil _ _ _ _, step_ hB1 (Nat.le_refl _) hb2⟩
  have hn := (good_iff.1 hg).2
  have HG := Lib.hid hg
  rcases find_cases x id with ⟨hfd, hi⟩ | ⟨k, hk, hfd, hi⟩
  · obtain ⟨e1, e2⟩ := with_none (c := c) (f := f) hfd
    rw [e1, e2]
    clear e1 e2 hfd hg
    go_enter Try.func75, Try.ntmps75
    go_wp2_with fail
    generalize w.alloc (.cells #[.int .i64 id] 3) = W0 at hB0 hc0 ⊢
    refine (indexFunc_93 _ (hasId id) x _ _ (h.below (Flat.keeps _) hB0) (fun s k hk => hasId_93 x[k] id _ _ _ (After.keep hc0 s))).mono ?_
    rintro e w1 ⟨rfl, hb1⟩
    rw [hi]
    have hB1 := step_ hB0 (Nat.le_refl _) hb1
    go_wp2_with (go_at_call 22; refine (areProtests_any x _ _ (h.below (Flat.keeps _) hB1)).mono ?_; rintro e w2 ⟨rfl, hb2⟩; rw [HG.out])
    go_ret2
    exact ⟨_, rfl, Row.nil _ _ _ _, step_ hB1 (Nat.le_refl _) hb2⟩
  have HD := Lib.hid hfd
  have HI := Lib.hid hi
  clear hfd hi hg
  have hn1 := Lib.hid (show ([] : List (List Value)).length + x.length ≤ 2147483648 by simp; omega)
  obtain ⟨A, cc, rfl, hcc, hm, hk0⟩ := h.open_
  obtain ⟨b, off, rfl, hat⟩ := flat_at hk0 (by omega)
  have hcl := Prot.cellsOld (hat k hk)
  clear hat hk0
  obtain ⟨cb, hcb⟩ : ∃ cb, c x[k] = cb := ⟨_, rfl⟩
  have HCB := Lib.hid hcb
  have HA := Lib.hid (show sts.any (fun y => x[k].state == y) = cb by rw [← hcb, HC.out])
  clear hcb
  go_enter Try.func75, Try.ntmps75
  go_wp2_with fail
  generalize w.alloc (.cells #[.int .i64 id] 3) = W0 at hB0 hc0 ⊢
  refine (indexFunc_93 _ (hasId id) x _ _ (h.below (Flat.keeps _) hB0) (fun s k hk => hasId_93 x[k] id _ _ _ (After.keep hc0 s))).mono ?_
  rintro e w1 ⟨rfl, hb1⟩
  rw [HI.out]
  have hB1 := step_ hB0 (Nat.le_refl _) hb1
  go_wp2_with fail
  refine (areProtests_any x _ _ (h.below (Flat.keeps _) hB1)).mono ?_
  rintro e w2 ⟨rfl, hb2⟩
  rw [HG.out]
  have hB2 := step_ hB1 (Nat.le_refl _) hb2
  have hcl2 := hcl ⟨w2, hB2⟩
  simp only at hcl2
  have h2 := h.below (Flat.keeps _) hB2
  clear hcl
  go_wp2_with fail
  refine (containsIntP_any sts vs _ _ (hst.below (Flat.keeps _) hB2)).mono ?_
  rintro e w' ⟨rfl, rfl⟩
  rw [HA.out]
  cases cb with
  | false =>
    go_wp2
    go_ret2
    obtain ⟨e1, e2⟩ := with_unfit (f := f) hk HD.out HCB.out
    rw [e1, e2]
    exact ⟨_, rfl, Row.nil _ _ _ _, hB2⟩
  | true =>
    go_wp2_with (at_builtin; refine tyProt.append rfl _ _ rfl w.heap.size (.slice (some ⟨w2.heap.size, 0, none⟩) 0 0) [] rfl (Row.lit_nil w2 _ _ hB2.size) _ x.length _ (x.map Prot.lst) rfl (Src.of_sl (h2.below (Flat.keeps _) (Below.alloc (Below.refl _ _) (Nat.le_refl _) _)) Prot.lst_len Prot.one) hn1.out (by have h := hB2.size; simp at h ⊢; omega) ?_; intro v3 w3 row3 hg3 hat3; have hB3 := (hB2.alloc hB2.size _).grown hg3 (by have h := hB2.size; simp at h ⊢; omega) (fun q hq => by simp [Value.ownBlock] at hq; have h := hB2.size; omega); rw [List.nil_append] at row3; obtain ⟨g, cap, rfl, hgb, hgl, hgc⟩ := row3.form (by simp; omega); simp only [List.length_map] at row3 hgc)
    refine (HF.out w3 g x.length cap k hk hB3 row3 HG.out HCB.out).mono ?_
    rintro e w4 ⟨rfl, row4, hg4⟩
    have hB4 := hB3.grown hg4 hB3.size (fun q hq => by simp at hq; omega)
    go_wp2_with fail
    refine (areProtests_any _ _ _ (Sl.of_flat row4)).mono ?_
    rintro e w5 ⟨rfl, hb5⟩
    have hB5 := step_ hB4 (Nat.le_refl _) hb5
    obtain ⟨b2, hgb2⟩ : ∃ b2, good (x.set k (f x[k])) = b2 := ⟨_, rfl⟩
    rw [hgb2]
    have HB := Lib.hid hgb2
    clear hgb2
    cases b2 with
    | true =>
      go_wp2
      go_ret2
      obtain ⟨e1, e2⟩ := with_fit (f := f) hk HD.out HG.out HCB.out HB.out
      rw [e1, e2]
      exact ⟨_, rfl, row4.below hb5, hB5⟩
    | false =>
      go_wp2
      go_ret2
      obtain ⟨e1, e2⟩ := with_after (c := c) (f := f) hk HD.out HB.out
      rw [e1, e2]
      exact ⟨_, rfl, Row.nil _ _ _ _, hB5⟩

set_option maxHeartbeats 2000000 in
theorem withProtest_79 (c : Prot → Bool) (f : Prot → Prot) (sts : List Int) (x : List Prot) (v vs : Value) (id : Int) (w : World) (h : Sl (Flat Prot.lst) 6 w v x) (hst : Sl (Flat ints) 1 w vs sts)
    (hcs : ∀ p : Prot, c p = sts.any (fun y => p.state == y))
    (hf : ∀ (W : World) (g n cap k : Nat) (hk : k < x.length), Below w.heap.size w W → Row w.heap.size 25 6 W (.slice (some ⟨g, 0, none⟩) n cap) (x.map Prot.lst) → good x = true → c x[k] = true →
      Calls Try.prog 79 #[.pointer (some ⟨g, k * 6, none⟩)] W fun e W' => e = .returned (.tuple #[]) ∧ Row w.heap.size 25 6 W' (.slice (some ⟨g, 0, none⟩) n cap) ((x.set k (f x[k])).map Prot.lst) ∧ W.grownBy W' (some g)) :
    Calls Try.prog 75 #[v, .int .i64 id, vs, .func (.func 79) #[] #[]] w fun e w' => ∃ r, e = .returned (.tuple #[r, .bool (wOk x id c f)]) ∧ Row w.heap.size 25 6 w' r ((wOut x id c f).map Prot.lst) ∧ Below w.heap.size w w' := by
  have HC := Lib.hid hcs
  have HF := Lib.hid hf
  clear hcs hf
  have hB0 : Below w.heap.size w (w.alloc (.cells #[.int .i64 id] 3)) := by (repeat (first | exact Below.refl _ _ | assumption | refine Below.drew ?_ | refine Below.alloc ?_ (by first | exact Nat.le_refl _ | (simp; done) | (simp; omega)) _))
  have hc0 : (w.alloc (.cells #[.int .i64 id] 3)).cell? ⟨w.heap.size, 0, none⟩ = some (.int .i64 id) := rangeAt_new w [.int .i64 id] 3 0 _ rfl
  by_cases hg : good x = true
  rotate_left
  · have hg' : good x = false := by simpa using hg
    obtain ⟨e1, e2⟩ := with_bad (id := id) (c := c) (f := f) hg'
    rw [e1, e2]
    clear e1 e2 hg
    go_enter Try.func75, Try.ntmps75
    go_wp2_with fail
    generalize w.alloc (.cells #[.int .i64 id] 3) = W0 at hB0 hc0 ⊢
    refine (indexFunc_93 _ (hasId id) x _ _ (h.below (Flat.keeps _) hB0) (fun s k hk => hasId_93 x[k] id _ _ _ (After.keep hc0 s))).mono ?_
    rintro e w1 ⟨rfl, hb1⟩
    have hB1 := step_ hB0 (Nat.le_refl _) hb1
    go_wp2_with (go_at_call 22; refine (areProtests_any x _ _ (h.below (Flat.keeps _) hB1)).mono ?_; rintro e w2 ⟨rfl, hb2⟩)
    go_ret2
    exact ⟨_, rfl, Row.nil _ _ _ _, step_ hB1 (Nat.le_refl _) hb2⟩
  have hn := (good_iff.1 hg).2
  have HG := Lib.hid hg
  rcases find_cases x id with ⟨hfd, hi⟩ | ⟨k, hk, hfd, hi⟩
  · obtain ⟨e1, e2⟩ := with_none (c := c) (f := f) hfd
    rw [e1, e2]
    clear e1 e2 hfd hg
    go_enter Try.func75, Try.ntmps75
    go_wp2_with fail
    generalize w.alloc (.cells #[.int .i64 id] 3) = W0 at hB0 hc0 ⊢
    refine (indexFunc_93 _ (hasId id) x _ _ (h.below (Flat.keeps _) hB0) (fun s k hk => hasId_93 x[k] id _ _ _ (After.keep hc0 s))).mono ?_
    rintro e w1 ⟨rfl, hb1⟩
    rw [hi]
    have hB1 := step_ hB0 (Nat.le_refl _) hb1
    go_wp2_with (go_at_call 22; refine (areProtests_any x _ _ (h.below (Flat.keeps _) hB1)).mono ?_; rintro e w2 ⟨rfl, hb2⟩; rw [HG.out])
    go_ret2
    exact ⟨_, rfl, Row.nil _ _ _ _, step_ hB1 (Nat.le_refl _) hb2⟩
  have HD := Lib.hid hfd
  have HI := Lib.hid hi
  clear hfd hi hg
  have hn1 := Lib.hid (show ([] : List (List Value)).length + x.length ≤ 2147483648 by simp; omega)
  obtain ⟨A, cc, rfl, hcc, hm, hk0⟩ := h.open_
  obtain ⟨b, off, rfl, hat⟩ := flat_at hk0 (by omega)
  have hcl := Prot.cellsOld (hat k hk)
  clear hat hk0
  obtain ⟨cb, hcb⟩ : ∃ cb, c x[k] = cb := ⟨_, rfl⟩
  have HCB := Lib.hid hcb
  have HA := Lib.hid (show sts.any (fun y => x[k].state == y) = cb by rw [← hcb, HC.out])
  clear hcb
  go_enter Try.func75, Try.ntmps75
  go_wp2_with fail
  generalize w.alloc (.cells #[.int .i64 id] 3) = W0 at hB0 hc0 ⊢
  refine (indexFunc_93 _ (hasId id) x _ _ (h.below (Flat.keeps _) hB0) (fun s k hk => hasId_93 x[k] id _ _ _ (After.keep hc0 s))).mono ?_
  rintro e w1 ⟨rfl, hb1⟩
  rw [HI.out]
  have hB1 := step_ hB0 (Nat.le_refl _) hb1
  go_wp2_with fail
  refine (areProtests_any x _ _ (h.below (Flat.keeps _) hB1)).mono ?_
  rintro e w2 ⟨rfl, hb2⟩
  rw [HG.out]
  have hB2 := step_ hB1 (Nat.le_refl _) hb2
  have hcl2 := hcl ⟨w2, hB2⟩
  simp only at hcl2
  have h2 := h.below (Flat.keeps _) hB2
  clear hcl
  go_wp2_with fail
  refine (containsIntP_any sts vs _ _ (hst.below (Flat.keeps _) hB2)).mono ?_
  rintro e w' ⟨rfl, rfl⟩
  rw [HA.out]
  cases cb with
  | false =>
    go_wp2
    go_ret2
    obtain ⟨e1, e2⟩ := with_unfit (f := f) hk HD.out HCB.out
    rw [e1, e2]
    exact ⟨_, rfl, Row.nil _ _ _ _, hB2⟩
  | true =>
    go_wp2_with (at_builtin; refine tyProt.append rfl _ _ rfl w.heap.size (.slice (some ⟨w2.heap.size, 0, none⟩) 0 0) [] rfl (Row.lit_nil w2 _ _ hB2.size) _ x.length _ (x.map Prot.lst) rfl (Src.of_sl (h2.below (Flat.keeps _) (Below.alloc (Below.refl _ _) (Nat.le_refl _) _)) Prot.lst_len Prot.one) hn1.out (by have h := hB2.size; simp at h ⊢; omega) ?_; intro v3 w3 row3 hg3 hat3; have hB3 := (hB2.alloc hB2.size _).grown hg3 (by have h := hB2.size; simp at h ⊢; omega) (fun q hq => by simp [Value.ownBlock] at hq; have h := hB2.size; omega); rw [List.nil_append] at row3; obtain ⟨g, cap, rfl, hgb, hgl, hgc⟩ := row3.form (by simp; omega); simp only [List.length_map] at row3 hgc)
    refine (HF.out w3 g x.length cap k hk hB3 row3 HG.out HCB.out).mono ?_
    rintro e w4 ⟨rfl, row4, hg4⟩
    have hB4 := hB3.grown hg4 hB3.size (fun q hq => by simp at hq; omega)
    go_wp2_with fail
    refine (areProtests_any _ _ _ (Sl.of_flat row4)).mono ?_
    rintro e w5 ⟨rfl, hb5⟩
    have hB5 := step_ hB4 (Nat.le_refl _) hb5
    obtain ⟨b2, hgb2⟩ : ∃ b2, good (x.set k (f x[k])) = b2 := ⟨_, rfl⟩
    rw [hgb2]
    have HB := Lib.hid hgb2
    clear hgb2
    cases b2 with
    | true =>
      go_wp2
      go_ret2
      obtain ⟨e1, e2⟩ := with_fit (f := f) hk HD.out HG.out HCB.out HB.out
      rw [e1, e2]
      exact ⟨_, rfl, row4.below hb5, hB5⟩
    | false =>
      go_wp2
      go_ret2
      obtain ⟨e1, e2⟩ := with_after (c := c) (f := f) hk HD.out HB.out
      rw [e1, e2]
      exact ⟨_, rfl, Row.nil _ _ _ _, hB5⟩

set_option maxHeartbeats 2000000 in
theorem withProtest_81 (pb po : Nat) (c : Prot → Bool) (f : Prot → Prot) (sts : List Int) (x : List Prot) (v vs : Value) (id : Int) (w : World) (h : Sl (Flat Prot.lst) 6 w v x) (hst : Sl (Flat ints) 1 w vs sts)
    (hcs : ∀ p : Prot, c p = sts.any (fun y => p.state == y))
    (hf : ∀ (W : World) (g n cap k : Nat) (hk : k < x.length), Below w.heap.size w W → Row w.heap.size 25 6 W (.slice (some ⟨g, 0, none⟩) n cap) (x.map Prot.lst) → good x = true → c x[k] = true →
      Calls Try.prog 81 #[.pointer (some ⟨g, k * 6, none⟩), .pointer (some ⟨pb, po, none⟩)] W fun e W' => e = .returned (.tuple #[]) ∧ Row w.heap.size 25 6 W' (.slice (some ⟨g, 0, none⟩) n cap) ((x.set k (f x[k])).map Prot.lst) ∧ W.grownBy W' (some g)) :
    Calls Try.prog 75 #[v, .int .i64 id, vs, .func (.func 81) #[] #[.pointer (some ⟨pb, po, none⟩)]] w fun e w' => ∃ r, e = .returned (.tuple #[r, .bool (wOk x id c f)]) ∧ Row w.heap.size 25 6 w' r ((wOut x id c f).map Prot.lst) ∧ Below w.heap.size w w' := by
  have HC := Lib.hid hcs
  have HF := Lib.hid hf
  clear hcs hf
  have hB0 : Below w.heap.size w (w.alloc (.cells #[.int .i64 id] 3)) := by (repeat (first | exact Below.refl _ _ | assumption | refine Below.drew ?_ | refine Below.alloc ?_ (by first | exact Nat.le_refl _ | (simp; done) | (simp; omega)) _))
  have hc0 : (w.alloc (.cells #[.int .i64 id] 3)).cell? ⟨w.heap.size, 0, none⟩ = some (.int .i64 id) := rangeAt_new w [.int .i64 id] 3 0 _ rfl
  by_cases hg : good x = true
  rotate_left
  · have hg' : good x = false := by simpa using hg
    obtain ⟨e1, e2⟩ := with_bad (id := id) (c := c) (f := f) hg'
    rw [e1, e2]
    clear e1 e2 hg
    go_enter Try.func75, Try.ntmps75
    go_wp2_with fail
    generalize w.alloc (.cells #[.int .i64 id] 3) = W0 at hB0 hc0 ⊢
    refine (indexFunc_93 _ (hasId id) x _ _ (h.below (Flat.keeps _) hB0) (fun s k hk => hasId_93 x[k] id _ _ _ (After.keep hc0 s))).mono ?_
    rintro e w1 ⟨rfl, hb1⟩
    have hB1 := step_ hB0 (Nat.le_refl _) hb1
    go_wp2_with (go_at_call 22; refine (areProtests_any x _ _ (h.below (Flat.keeps _) hB1)).mono ?_; rintro e w2 ⟨rfl, hb2⟩)
    go_ret2
    exact ⟨_, rfl, Row.nil _ _ _ _, step_ hB1 (Nat.le_refl _) hb2⟩
  have hn := (good_iff.1 hg).2
  have HG := Lib.hid hg
  rcases find_cases x id with ⟨hfd, hi⟩ | ⟨k, hk, hfd, hi⟩
  · obtain ⟨e1, e2⟩ := with_none (c := c) (f := f) hfd
    rw [e1, e2]
    clear e1 e2 hfd hg
    go_enter Try.func75, Try.ntmps75
    go_wp2_with fail
    generalize w.alloc (.cells #[.int .i64 id] 3) = W0 at hB0 hc0 ⊢
    refine (indexFunc_93 _ (hasId id) x _ _ (h.below (Flat.keeps _) hB0) (fun s k hk => hasId_93 x[k] id _ _ _ (After.keep hc0 s))).mono ?_
    rintro e w1 ⟨rfl, hb1⟩
    rw [hi]
    have hB1 := step_ hB0 (Nat.le_refl _) hb1
    go_wp2_with (go_at_call 22; refine (areProtests_any x _ _ (h.below (Flat.keeps _) hB1)).mono ?_; rintro e w2 ⟨rfl, hb2⟩; rw [HG.out])
    go_ret2
    exact ⟨_, rfl, Row.nil _ _ _ _, step_ hB1 (Nat.le_refl _) hb2⟩
  have HD := Lib.hid hfd
  have HI := Lib.hid hi
  clear hfd hi hg
  have hn1 := Lib.hid (show ([] : List (List Value)).length + x.length ≤ 2147483648 by simp; omega)
  obtain ⟨A, cc, rfl, hcc, hm, hk0⟩ := h.open_
  obtain ⟨b, off, rfl, hat⟩ := flat_at hk0 (by omega)
  have hcl := Prot.cellsOld (hat k hk)
  clear hat hk0
  obtain ⟨cb, hcb⟩ : ∃ cb, c x[k] = cb := ⟨_, rfl⟩
  have HCB := Lib.hid hcb
  have HA := Lib.hid (show sts.any (fun y => x[k].state == y) = cb by rw [← hcb, HC.out])
  clear hcb
  go_enter Try.func75, Try.ntmps75
  go_wp2_with fail
  generalize w.alloc (.cells #[.int .i64 id] 3) = W0 at hB0 hc0 ⊢
  refine (indexFunc_93 _ (hasId id) x _ _ (h.below (Flat.keeps _) hB0) (fun s k hk => hasId_93 x[k] id _ _ _ (After.keep hc0 s))).mono ?_
  rintro e w1 ⟨rfl, hb1⟩
  rw [HI.out]
  have hB1 := step_ hB0 (Nat.le_refl _) hb1
  go_wp2_with fail
  refine (areProtests_any x _ _ (h.below (Flat.keeps _) hB1)).mono ?_
  rintro e w2 ⟨rfl, hb2⟩
  rw [HG.out]
  have hB2 := step_ hB1 (Nat.le_refl _) hb2
  have hcl2 := hcl ⟨w2, hB2⟩
  simp only at hcl2
  have h2 := h.below (Flat.keeps _) hB2
  clear hcl
  go_wp2_with fail
  refine (containsIntP_any sts vs _ _ (hst.below (Flat.keeps _) hB2)).mono ?_
  rintro e w' ⟨rfl, rfl⟩
  rw [HA.out]
  cases cb with
  | false =>
    go_wp2
    go_ret2
    obtain ⟨e1, e2⟩ := with_unfit (f := f) hk HD.out HCB.out
    rw [e1, e2]
    exact ⟨_, rfl, Row.nil _ _ _ _, hB2⟩
  | true =>
    go_wp2_with (at_builtin; refine tyProt.append rfl _ _ rfl w.heap.size (.slice (some ⟨w2.heap.size, 0, none⟩) 0 0) [] rfl (Row.lit_nil w2 _ _ hB2.size) _ x.length _ (x.map Prot.lst) rfl (Src.of_sl (h2.below (Flat.keeps _) (Below.alloc (Below.refl _ _) (Nat.le_refl _) _)) Prot.lst_len Prot.one) hn1.out (by have h := hB2.size; simp at h ⊢; omega) ?_; intro v3 w3 row3 hg3 hat3; have hB3 := (hB2.alloc hB2.size _).grown hg3 (by have h := hB2.size; simp at h ⊢; omega) (fun q hq => by simp [Value.ownBlock] at hq; have h := hB2.size; omega); rw [List.nil_append] at row3; obtain ⟨g, cap, rfl, hgb, hgl, hgc⟩ := row3.form (by simp; omega); simp only [List.length_map] at row3 hgc)
    refine (HF.out w3 g x.length cap k hk hB3 row3 HG.out HCB.out).mono ?_
    rintro e w4 ⟨rfl, row4, hg4⟩
    have hB4 := hB3.grown hg4 hB3.size (fun q hq => by simp at hq; omega)
    go_wp2_with fail
    refine (areProtests_any _ _ _ (Sl.of_flat row4)).mono ?_
    rintro e w5 ⟨rfl, hb5⟩
    have hB5 := step_ hB4 (Nat.le_refl _) hb5
    obtain ⟨b2, hgb2⟩ : ∃ b2, good (x.set k (f x[k])) = b2 := ⟨_, rfl⟩
    rw [hgb2]
    have HB := Lib.hid hgb2
    clear hgb2
    cases b2 with
    | true =>
      go_wp2
      go_ret2
      obtain ⟨e1, e2⟩ := with_fit (f := f) hk HD.out HG.out HCB.out HB.out
      rw [e1, e2]
      exact ⟨_, rfl, row4.below hb5, hB5⟩
    | false =>
      go_wp2
      go_ret2
      obtain ⟨e1, e2⟩ := with_after (c := c) (f := f) hk HD.out HB.out
      rw [e1, e2]
      exact ⟨_, rfl, Row.nil _ _ _ _, hB5⟩

end Go.Proofs.Ytabihggfnofcbaa
