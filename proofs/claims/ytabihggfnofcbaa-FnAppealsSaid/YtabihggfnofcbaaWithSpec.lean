/- The walks of the reference's four changes of a protest. No condition. -/
import Derived.Test.YtabihggfnofcbaaWith
namespace Go.Proofs.Ytabihggfnofcbaa
open Go Go.RowKit


set_option maxHeartbeats 2000000 in
theorem spec_HearProtest (x : List Prot) (v : Value) (id : Int) (w : World) (h : Sl (Flat Prot.lst) 6 w v x) (_ : ∀ p ∈ x, Prot.ok p) (_ : I64 id) :
    Calls Try.prog 37 #[v, .int .i64 id] w fun e w' => ∃ r, e = .returned (.tuple #[r, .bool (wOk x id (cHear) (fHear))]) ∧ Row w.heap.size 25 6 w' r ((wOut x id (cHear) (fHear)).map Prot.lst) ∧ Below w.heap.size w w' := by
  by_cases hg : good x = true
  rotate_left
  · have hg' : good x = false := by simpa using hg
    obtain ⟨e1, e2⟩ := with_bad (id := id) (c := cHear) (f := fHear) hg'
    rw [e1, e2]
    clear e1 e2 hg
    go_enter Try.func37, Try.ntmps37
    go_wp2_with (first
      | (go_at_call 73; refine (l22Find_any x _ _ _ h).mono ?_; rintro e w' ⟨rfl, rfl⟩)
      | (go_at_call 64; refine (l22Good_any x _ _ h).mono ?_; rintro e w1 ⟨rfl, hb1⟩))
    go_ret2
    exact ⟨_, rfl, Row.lit_nil w1 _ _ hb1.size, hb1.alloc hb1.size _⟩
  have hn := (good_iff.1 hg).2
  have HG := Lib.hid hg
  rcases find_cases x id with ⟨hf, hi⟩ | ⟨k, hk, hf, hi⟩
  · obtain ⟨e1, e2⟩ := with_none (c := cHear) (f := fHear) hf
    rw [e1, e2]
    clear e1 e2 hf
    go_enter Try.func37, Try.ntmps37
    go_wp2_with (first
      | (go_at_call 73; refine (l22Find_any x _ _ _ h).mono ?_; rintro e w' ⟨rfl, rfl⟩; rw [hi])
      | (go_at_call 64; refine (l22Good_any x _ _ h).mono ?_; rintro e w1 ⟨rfl, hb1⟩; rw [HG.out]))
    go_ret2
    exact ⟨_, rfl, Row.lit_nil w1 _ _ hb1.size, hb1.alloc hb1.size _⟩
  have HF := Lib.hid hf
  have HI := Lib.hid hi
  have bd := specOne_bounds (good_at hg hk)
  have bm1 := bd.2.2.2.1.1
  have bm2 := bd.2.2.2.1.2
  have bv1 := bd.2.2.2.2.2.1
  have bv2 := bd.2.2.2.2.2.2
  clear hf hi hg bd
  obtain ⟨A, cc, rfl, hc, hm, hk0⟩ := h.open_
  obtain ⟨b, off, rfl, hat⟩ := flat_at hk0 (by omega)
  have hcs := Prot.cellsOld (hat k hk)
  clear hat hk0
  by_cases hw : x[k].state = 0 ∨ x[k].state = 4
  rotate_left
  · have HC := Lib.hid (show (cHear) x[k] = false by simp [cHear]; omega)
    have hw1 : (x[k].state != 0) = true := by simp; omega
    have hw2 : (x[k].state != 4) = true := by simp; omega
    clear hw
    go_enter Try.func37, Try.ntmps37
    go_wp2_with (first
      | (go_at_call 73; refine (l22Find_any x _ _ _ h).mono ?_; rintro e w' ⟨rfl, rfl⟩; rw [HI.out])
      | (go_at_call 64; refine (l22Good_any x _ _ h).mono ?_; rintro e w1 ⟨rfl, hb1⟩; rw [HG.out]; have hcs1 := hcs ⟨w1, hb1⟩; simp only at hcs1; have h1 := h.below (Flat.keeps _) hb1))
    all_goals (
      go_ret2
      obtain ⟨e1, e2⟩ := with_unfit (f := fHear) hk HF.out HC.out
      rw [e1, e2]
      exact ⟨_, rfl, Row.lit_nil w1 _ _ hb1.size, hb1.alloc hb1.size _⟩)
  · have HC := Lib.hid (show (cHear) x[k] = true by simp [cHear]; omega)
    rcases hw with hw | hw
    · have hw1 : (x[k].state != 0) = false := by simp; omega
      go_enter Try.func37, Try.ntmps37
      go_wp2_with (first
        | (go_at_call 73; refine (l22Find_any x _ _ _ h).mono ?_; rintro e w' ⟨rfl, rfl⟩; rw [HI.out])
        | (go_at_call 64; refine (l22Good_any x _ _ h).mono ?_; rintro e w1 ⟨rfl, hb1⟩; rw [HG.out]; have hcs1 := hcs ⟨w1, hb1⟩; simp only at hcs1; have h1 := h.below (Flat.keeps _) hb1))
      refine (l22With_any x _ k 1 0 _ h1 hk (by omega)).mono ?_
      rintro e w2 ⟨r, rfl, row, hb2⟩
      have hB2 := step_ hb1 (Nat.le_refl _) hb2
      have HE := Lib.hid (show (fHear) x[k] = { x[k] with state := 1, votes := 0 } by rfl)
      obtain ⟨b2, hgb⟩ : ∃ b2, good (x.set k ((fHear) x[k])) = b2 := ⟨_, rfl⟩
      rw [HE.out] at hgb
      rw [hgb] at row ⊢
      have HB := Lib.hid hgb
      clear hgb
      cases b2 with
      | true =>
        go_wp2
        go_ret2
        obtain ⟨e1, e2⟩ := with_fit (f := fHear) hk HF.out HG.out HC.out (by rw [HE.out]; exact HB.out)
        rw [e1, e2, HE.out]
        exact ⟨_, rfl, (by simpa using row.mono hb1.size), hB2⟩
      | false =>
        go_wp2
        go_ret2
        obtain ⟨e1, e2⟩ := with_after (c := cHear) (f := fHear) hk HF.out (by rw [HE.out]; exact HB.out)
        rw [e1, e2]
        exact ⟨_, rfl, (by simpa using row.mono hb1.size), hB2⟩
    · have hw1 : (x[k].state != 0) = true := by simp; omega
      have hw2 : (x[k].state != 4) = false := by simp; omega
      go_enter Try.func37, Try.ntmps37
      go_wp2_with (first
        | (go_at_call 73; refine (l22Find_any x _ _ _ h).mono ?_; rintro e w' ⟨rfl, rfl⟩; rw [HI.out])
        | (go_at_call 64; refine (l22Good_any x _ _ h).mono ?_; rintro e w1 ⟨rfl, hb1⟩; rw [HG.out]; have hcs1 := hcs ⟨w1, hb1⟩; simp only at hcs1; have h1 := h.below (Flat.keeps _) hb1))
      refine (l22With_any x _ k 1 0 _ h1 hk (by omega)).mono ?_
      rintro e w2 ⟨r, rfl, row, hb2⟩
      have hB2 := step_ hb1 (Nat.le_refl _) hb2
      have HE := Lib.hid (show (fHear) x[k] = { x[k] with state := 1, votes := 0 } by rfl)
      obtain ⟨b2, hgb⟩ : ∃ b2, good (x.set k ((fHear) x[k])) = b2 := ⟨_, rfl⟩
      rw [HE.out] at hgb
      rw [hgb] at row ⊢
      have HB := Lib.hid hgb
      clear hgb
      cases b2 with
      | true =>
        go_wp2
        go_ret2
        obtain ⟨e1, e2⟩ := with_fit (f := fHear) hk HF.out HG.out HC.out (by rw [HE.out]; exact HB.out)
        rw [e1, e2, HE.out]
        exact ⟨_, rfl, (by simpa using row.mono hb1.size), hB2⟩
      | false =>
        go_wp2
        go_ret2
        obtain ⟨e1, e2⟩ := with_after (c := cHear) (f := fHear) hk HF.out (by rw [HE.out]; exact HB.out)
        rw [e1, e2]
        exact ⟨_, rfl, (by simpa using row.mono hb1.size), hB2⟩


set_option maxHeartbeats 2000000 in
theorem spec_DecideProtest (x : List Prot) (v : Value) (id : Int) (w : World) (h : Sl (Flat Prot.lst) 6 w v x) (_ : ∀ p ∈ x, Prot.ok p) (_ : I64 id) :
    Calls Try.prog 41 #[v, .int .i64 id] w fun e w' => ∃ r, e = .returned (.tuple #[r, .bool (wOk x id (cOpen) (fDecide))]) ∧ Row w.heap.size 25 6 w' r ((wOut x id (cOpen) (fDecide)).map Prot.lst) ∧ Below w.heap.size w w' := by
  by_cases hg : good x = true
  rotate_left
  · have hg' : good x = false := by simpa using hg
    obtain ⟨e1, e2⟩ := with_bad (id := id) (c := cOpen) (f := fDecide) hg'
    rw [e1, e2]
    clear e1 e2 hg
    go_enter Try.func41, Try.ntmps41
    go_wp2_with (first
      | (go_at_call 73; refine (l22Find_any x _ _ _ h).mono ?_; rintro e w' ⟨rfl, rfl⟩)
      | (go_at_call 64; refine (l22Good_any x _ _ h).mono ?_; rintro e w1 ⟨rfl, hb1⟩))
    go_ret2
    exact ⟨_, rfl, Row.lit_nil w1 _ _ hb1.size, hb1.alloc hb1.size _⟩
  have hn := (good_iff.1 hg).2
  have HG := Lib.hid hg
  rcases find_cases x id with ⟨hf, hi⟩ | ⟨k, hk, hf, hi⟩
  · obtain ⟨e1, e2⟩ := with_none (c := cOpen) (f := fDecide) hf
    rw [e1, e2]
    clear e1 e2 hf
    go_enter Try.func41, Try.ntmps41
    go_wp2_with (first
      | (go_at_call 73; refine (l22Find_any x _ _ _ h).mono ?_; rintro e w' ⟨rfl, rfl⟩; rw [hi])
      | (go_at_call 64; refine (l22Good_any x _ _ h).mono ?_; rintro e w1 ⟨rfl, hb1⟩; rw [HG.out]))
    go_ret2
    exact ⟨_, rfl, Row.lit_nil w1 _ _ hb1.size, hb1.alloc hb1.size _⟩
  have HF := Lib.hid hf
  have HI := Lib.hid hi
  have bd := specOne_bounds (good_at hg hk)
  have bm1 := bd.2.2.2.1.1
  have bm2 := bd.2.2.2.1.2
  have bv1 := bd.2.2.2.2.2.1
  have bv2 := bd.2.2.2.2.2.2
  clear hf hi hg bd
  obtain ⟨A, cc, rfl, hc, hm, hk0⟩ := h.open_
  obtain ⟨b, off, rfl, hat⟩ := flat_at hk0 (by omega)
  have hcs := Prot.cellsOld (hat k hk)
  clear hat hk0
  by_cases hw : x[k].state = 1
  rotate_left
  · have HC := Lib.hid (show (cOpen) x[k] = false by simp [cOpen]; omega)
    have hw1 : (x[k].state != 1) = true := by simp; omega
    clear hw
    go_enter Try.func41, Try.ntmps41
    go_wp2_with (first
      | (go_at_call 73; refine (l22Find_any x _ _ _ h).mono ?_; rintro e w' ⟨rfl, rfl⟩; rw [HI.out])
      | (go_at_call 64; refine (l22Good_any x _ _ h).mono ?_; rintro e w1 ⟨rfl, hb1⟩; rw [HG.out]; have hcs1 := hcs ⟨w1, hb1⟩; simp only at hcs1; have h1 := h.below (Flat.keeps _) hb1))
    all_goals (
      go_ret2
      obtain ⟨e1, e2⟩ := with_unfit (f := fDecide) hk HF.out HC.out
      rw [e1, e2]
      exact ⟨_, rfl, Row.lit_nil w1 _ _ hb1.size, hb1.alloc hb1.size _⟩)
  · have HC := Lib.hid (show (cOpen) x[k] = true by simp [cOpen]; omega)
    have hw1 : (x[k].state != 1) = false := by simp; omega
    by_cases hv : 0 < x[k].votes
    · go_enter Try.func41, Try.ntmps41
      go_wp2_with (first
        | (go_at_call 73; refine (l22Find_any x _ _ _ h).mono ?_; rintro e w' ⟨rfl, rfl⟩; rw [HI.out])
        | (go_at_call 64; refine (l22Good_any x _ _ h).mono ?_; rintro e w1 ⟨rfl, hb1⟩; rw [HG.out]; have hcs1 := hcs ⟨w1, hb1⟩; simp only at hcs1; have h1 := h.below (Flat.keeps _) hb1))
      refine (l22With_any x _ k 2 x[k].votes _ h1 hk (by omega)).mono ?_
      rintro e w2 ⟨r, rfl, row, hb2⟩
      have hB2 := step_ hb1 (Nat.le_refl _) hb2
      have HE := Lib.hid (show (fDecide) x[k] = { x[k] with state := 2, votes := x[k].votes } by simp [fDecide, hv])
      obtain ⟨b2, hgb⟩ : ∃ b2, good (x.set k ((fDecide) x[k])) = b2 := ⟨_, rfl⟩
      rw [HE.out] at hgb
      rw [hgb] at row ⊢
      have HB := Lib.hid hgb
      clear hgb
      cases b2 with
      | true =>
        go_wp2
        go_ret2
        obtain ⟨e1, e2⟩ := with_fit (f := fDecide) hk HF.out HG.out HC.out (by rw [HE.out]; exact HB.out)
        rw [e1, e2, HE.out]
        exact ⟨_, rfl, (by simpa using row.mono hb1.size), hB2⟩
      | false =>
        go_wp2
        go_ret2
        obtain ⟨e1, e2⟩ := with_after (c := cOpen) (f := fDecide) hk HF.out (by rw [HE.out]; exact HB.out)
        rw [e1, e2]
        exact ⟨_, rfl, (by simpa using row.mono hb1.size), hB2⟩
    · go_enter Try.func41, Try.ntmps41
      go_wp2_with (first
        | (go_at_call 73; refine (l22Find_any x _ _ _ h).mono ?_; rintro e w' ⟨rfl, rfl⟩; rw [HI.out])
        | (go_at_call 64; refine (l22Good_any x _ _ h).mono ?_; rintro e w1 ⟨rfl, hb1⟩; rw [HG.out]; have hcs1 := hcs ⟨w1, hb1⟩; simp only at hcs1; have h1 := h.below (Flat.keeps _) hb1))
      refine (l22With_any x _ k 3 x[k].votes _ h1 hk (by omega)).mono ?_
      rintro e w2 ⟨r, rfl, row, hb2⟩
      have hB2 := step_ hb1 (Nat.le_refl _) hb2
      have HE := Lib.hid (show (fDecide) x[k] = { x[k] with state := 3, votes := x[k].votes } by simp [fDecide, hv])
      obtain ⟨b2, hgb⟩ : ∃ b2, good (x.set k ((fDecide) x[k])) = b2 := ⟨_, rfl⟩
      rw [HE.out] at hgb
      rw [hgb] at row ⊢
      have HB := Lib.hid hgb
      clear hgb
      cases b2 with
      | true =>
        go_wp2
        go_ret2
        obtain ⟨e1, e2⟩ := with_fit (f := fDecide) hk HF.out HG.out HC.out (by rw [HE.out]; exact HB.out)
        rw [e1, e2, HE.out]
        exact ⟨_, rfl, (by simpa using row.mono hb1.size), hB2⟩
      | false =>
        go_wp2
        go_ret2
        obtain ⟨e1, e2⟩ := with_after (c := cOpen) (f := fDecide) hk HF.out (by rw [HE.out]; exact HB.out)
        rw [e1, e2]
        exact ⟨_, rfl, (by simpa using row.mono hb1.size), hB2⟩


set_option maxHeartbeats 2000000 in
theorem spec_VoteOn (x : List Prot) (v : Value) (id : Int) (pro : Bool) (w : World) (h : Sl (Flat Prot.lst) 6 w v x) (_ : ∀ p ∈ x, Prot.ok p) (_ : I64 id) :
    Calls Try.prog 43 #[v, .int .i64 id, .bool pro] w fun e w' => ∃ r, e = .returned (.tuple #[r, .bool (wOk x id (cOpen) (fVote pro))]) ∧ Row w.heap.size 25 6 w' r ((wOut x id (cOpen) (fVote pro)).map Prot.lst) ∧ Below w.heap.size w w' := by
  by_cases hg : good x = true
  rotate_left
  · have hg' : good x = false := by simpa using hg
    obtain ⟨e1, e2⟩ := with_bad (id := id) (c := cOpen) (f := fVote pro) hg'
    rw [e1, e2]
    clear e1 e2 hg
    go_enter Try.func43, Try.ntmps43
    go_wp2_with (first
      | (go_at_call 73; refine (l22Find_any x _ _ _ h).mono ?_; rintro e w' ⟨rfl, rfl⟩)
      | (go_at_call 64; refine (l22Good_any x _ _ h).mono ?_; rintro e w1 ⟨rfl, hb1⟩))
    go_ret2
    exact ⟨_, rfl, Row.lit_nil w1 _ _ hb1.size, hb1.alloc hb1.size _⟩
  have hn := (good_iff.1 hg).2
  have HG := Lib.hid hg
  rcases find_cases x id with ⟨hf, hi⟩ | ⟨k, hk, hf, hi⟩
  · obtain ⟨e1, e2⟩ := with_none (c := cOpen) (f := fVote pro) hf
    rw [e1, e2]
    clear e1 e2 hf
    go_enter Try.func43, Try.ntmps43
    go_wp2_with (first
      | (go_at_call 73; refine (l22Find_any x _ _ _ h).mono ?_; rintro e w' ⟨rfl, rfl⟩; rw [hi])
      | (go_at_call 64; refine (l22Good_any x _ _ h).mono ?_; rintro e w1 ⟨rfl, hb1⟩; rw [HG.out]))
    go_ret2
    exact ⟨_, rfl, Row.lit_nil w1 _ _ hb1.size, hb1.alloc hb1.size _⟩
  have HF := Lib.hid hf
  have HI := Lib.hid hi
  have bd := specOne_bounds (good_at hg hk)
  have bm1 := bd.2.2.2.1.1
  have bm2 := bd.2.2.2.1.2
  have bv1 := bd.2.2.2.2.2.1
  have bv2 := bd.2.2.2.2.2.2
  clear hf hi hg bd
  obtain ⟨A, cc, rfl, hc, hm, hk0⟩ := h.open_
  obtain ⟨b, off, rfl, hat⟩ := flat_at hk0 (by omega)
  have hcs := Prot.cellsOld (hat k hk)
  clear hat hk0
  by_cases hw : x[k].state = 1
  rotate_left
  · have HC := Lib.hid (show (cOpen) x[k] = false by simp [cOpen]; omega)
    have hw1 : (x[k].state != 1) = true := by simp; omega
    clear hw
    go_enter Try.func43, Try.ntmps43
    go_wp2_with (first
      | (go_at_call 73; refine (l22Find_any x _ _ _ h).mono ?_; rintro e w' ⟨rfl, rfl⟩; rw [HI.out])
      | (go_at_call 64; refine (l22Good_any x _ _ h).mono ?_; rintro e w1 ⟨rfl, hb1⟩; rw [HG.out]; have hcs1 := hcs ⟨w1, hb1⟩; simp only at hcs1; have h1 := h.below (Flat.keeps _) hb1))
    all_goals (
      go_ret2
      obtain ⟨e1, e2⟩ := with_unfit (f := fVote pro) hk HF.out HC.out
      rw [e1, e2]
      exact ⟨_, rfl, Row.lit_nil w1 _ _ hb1.size, hb1.alloc hb1.size _⟩)
  · have HC := Lib.hid (show (cOpen) x[k] = true by simp [cOpen]; omega)
    have hw1 : (x[k].state != 1) = false := by simp; omega
    cases pro with
    | true =>
      go_enter Try.func43, Try.ntmps43
      go_wp2_with (first
        | (go_at_call 73; refine (l22Find_any x _ _ _ h).mono ?_; rintro e w' ⟨rfl, rfl⟩; rw [HI.out])
        | (go_at_call 64; refine (l22Good_any x _ _ h).mono ?_; rintro e w1 ⟨rfl, hb1⟩; rw [HG.out]; have hcs1 := hcs ⟨w1, hb1⟩; simp only at hcs1; have h1 := h.below (Flat.keeps _) hb1))
      refine (l22With_any x _ k 1 (x[k].votes + 1) _ h1 hk (by omega)).mono ?_
      rintro e w2 ⟨r, rfl, row, hb2⟩
      have hB2 := step_ hb1 (Nat.le_refl _) hb2
      have HE := Lib.hid (show (fVote true) x[k] = { x[k] with state := 1, votes := x[k].votes + 1 } by simp [fVote])
      obtain ⟨b2, hgb⟩ : ∃ b2, good (x.set k ((fVote true) x[k])) = b2 := ⟨_, rfl⟩
      rw [HE.out] at hgb
      rw [hgb] at row ⊢
      have HB := Lib.hid hgb
      clear hgb
      cases b2 with
      | true =>
        go_wp2
        go_ret2
        obtain ⟨e1, e2⟩ := with_fit (f := fVote true) hk HF.out HG.out HC.out (by rw [HE.out]; exact HB.out)
        rw [e1, e2, HE.out]
        exact ⟨_, rfl, (by simpa using row.mono hb1.size), hB2⟩
      | false =>
        go_wp2
        go_ret2
        obtain ⟨e1, e2⟩ := with_after (c := cOpen) (f := fVote true) hk HF.out (by rw [HE.out]; exact HB.out)
        rw [e1, e2]
        exact ⟨_, rfl, (by simpa using row.mono hb1.size), hB2⟩
    | false =>
      go_enter Try.func43, Try.ntmps43
      go_wp2_with (first
        | (go_at_call 73; refine (l22Find_any x _ _ _ h).mono ?_; rintro e w' ⟨rfl, rfl⟩; rw [HI.out])
        | (go_at_call 64; refine (l22Good_any x _ _ h).mono ?_; rintro e w1 ⟨rfl, hb1⟩; rw [HG.out]; have hcs1 := hcs ⟨w1, hb1⟩; simp only at hcs1; have h1 := h.below (Flat.keeps _) hb1))
      refine (l22With_any x _ k 1 (x[k].votes - 1) _ h1 hk (by omega)).mono ?_
      rintro e w2 ⟨r, rfl, row, hb2⟩
      have hB2 := step_ hb1 (Nat.le_refl _) hb2
      have HE := Lib.hid (show (fVote false) x[k] = { x[k] with state := 1, votes := x[k].votes - 1 } by simp [fVote])
      obtain ⟨b2, hgb⟩ : ∃ b2, good (x.set k ((fVote false) x[k])) = b2 := ⟨_, rfl⟩
      rw [HE.out] at hgb
      rw [hgb] at row ⊢
      have HB := Lib.hid hgb
      clear hgb
      cases b2 with
      | true =>
        go_wp2
        go_ret2
        obtain ⟨e1, e2⟩ := with_fit (f := fVote false) hk HF.out HG.out HC.out (by rw [HE.out]; exact HB.out)
        rw [e1, e2, HE.out]
        exact ⟨_, rfl, (by simpa using row.mono hb1.size), hB2⟩
      | false =>
        go_wp2
        go_ret2
        obtain ⟨e1, e2⟩ := with_after (c := cOpen) (f := fVote false) hk HF.out (by rw [HE.out]; exact HB.out)
        rw [e1, e2]
        exact ⟨_, rfl, (by simpa using row.mono hb1.size), hB2⟩


set_option maxHeartbeats 2000000 in
theorem spec_AppealProtest (x : List Prot) (v : Value) (id t : Int) (w : World) (h : Sl (Flat Prot.lst) 6 w v x) (_ : ∀ p ∈ x, Prot.ok p) (_ : I64 id) (_ : I64 t) :
    Calls Try.prog 39 #[v, .int .i64 id, .int .i64 t] w fun e w' => ∃ r, e = .returned (.tuple #[r, .bool (wOk x id (cAppeal t) (fAppeal))]) ∧ Row w.heap.size 25 6 w' r ((wOut x id (cAppeal t) (fAppeal)).map Prot.lst) ∧ Below w.heap.size w w' := by
  by_cases hg : good x = true
  rotate_left
  · have hg' : good x = false := by simpa using hg
    obtain ⟨e1, e2⟩ := with_bad (id := id) (c := cAppeal t) (f := fAppeal) hg'
    rw [e1, e2]
    clear e1 e2 hg
    go_enter Try.func39, Try.ntmps39
    go_wp2_with (first
      | (go_at_call 73; refine (l22Find_any x _ _ _ h).mono ?_; rintro e w' ⟨rfl, rfl⟩)
      | (go_at_call 64; refine (l22Good_any x _ _ h).mono ?_; rintro e w1 ⟨rfl, hb1⟩))
    go_ret2
    exact ⟨_, rfl, Row.lit_nil w1 _ _ hb1.size, hb1.alloc hb1.size _⟩
  have hn := (good_iff.1 hg).2
  have HG := Lib.hid hg
  rcases find_cases x id with ⟨hf, hi⟩ | ⟨k, hk, hf, hi⟩
  · obtain ⟨e1, e2⟩ := with_none (c := cAppeal t) (f := fAppeal) hf
    rw [e1, e2]
    clear e1 e2 hf
    go_enter Try.func39, Try.ntmps39
    go_wp2_with (first
      | (go_at_call 73; refine (l22Find_any x _ _ _ h).mono ?_; rintro e w' ⟨rfl, rfl⟩; rw [hi])
      | (go_at_call 64; refine (l22Good_any x _ _ h).mono ?_; rintro e w1 ⟨rfl, hb1⟩; rw [HG.out]))
    go_ret2
    exact ⟨_, rfl, Row.lit_nil w1 _ _ hb1.size, hb1.alloc hb1.size _⟩
  have HF := Lib.hid hf
  have HI := Lib.hid hi
  have bd := specOne_bounds (good_at hg hk)
  have bm1 := bd.2.2.2.1.1
  have bm2 := bd.2.2.2.1.2
  have bv1 := bd.2.2.2.2.2.1
  have bv2 := bd.2.2.2.2.2.2
  clear hf hi hg bd
  obtain ⟨A, cc, rfl, hc, hm, hk0⟩ := h.open_
  obtain ⟨b, off, rfl, hat⟩ := flat_at hk0 (by omega)
  have hcs := Prot.cellsOld (hat k hk)
  clear hat hk0
  by_cases hw : x[k].state = 3
  rotate_left
  · have HC := Lib.hid (show (cAppeal t) x[k] = false by simp [cAppeal]; omega)
    have hw1 : (x[k].state != 3) = true := by simp; omega
    clear hw
    go_enter Try.func39, Try.ntmps39
    go_wp2_with (first
      | (go_at_call 73; refine (l22Find_any x _ _ _ h).mono ?_; rintro e w' ⟨rfl, rfl⟩; rw [HI.out])
      | (go_at_call 64; refine (l22Good_any x _ _ h).mono ?_; rintro e w1 ⟨rfl, hb1⟩; rw [HG.out]; have hcs1 := hcs ⟨w1, hb1⟩; simp only at hcs1; have h1 := h.below (Flat.keeps _) hb1)
      | (go_at_call 66; refine (l12Time_any _ _).mono ?_; rintro e w' ⟨rfl, rfl⟩)
      | (go_at_call 68; refine (l1In_any _ _ _ _).mono ?_; rintro e w' ⟨rfl, rfl⟩))
    all_goals (
      go_ret2
      obtain ⟨e1, e2⟩ := with_unfit (f := fAppeal) hk HF.out HC.out
      rw [e1, e2]
      exact ⟨_, rfl, Row.lit_nil w1 _ _ hb1.size, hb1.alloc hb1.size _⟩)
  have hw1 : (x[k].state != 3) = false := by simp; omega
  by_cases ht : inB t 0 36000 = true
  rotate_left
  · have ht' : inB t 0 36000 = false := by simpa using ht
    have HC := Lib.hid (show (cAppeal t) x[k] = false by simp [cAppeal, ht'])
    clear ht hw
    go_enter Try.func39, Try.ntmps39
    go_wp2_with (first
      | (go_at_call 73; refine (l22Find_any x _ _ _ h).mono ?_; rintro e w' ⟨rfl, rfl⟩; rw [HI.out])
      | (go_at_call 64; refine (l22Good_any x _ _ h).mono ?_; rintro e w1 ⟨rfl, hb1⟩; rw [HG.out]; have hcs1 := hcs ⟨w1, hb1⟩; simp only at hcs1; have h1 := h.below (Flat.keeps _) hb1)
      | (go_at_call 66; refine (l12Time_any _ _).mono ?_; rintro e w' ⟨rfl, rfl⟩)
      | (go_at_call 68; refine (l1In_any _ _ _ _).mono ?_; rintro e w' ⟨rfl, rfl⟩))
    all_goals (
      go_ret2
      obtain ⟨e1, e2⟩ := with_unfit (f := fAppeal) hk HF.out HC.out
      rw [e1, e2]
      exact ⟨_, rfl, Row.lit_nil w1 _ _ hb1.size, hb1.alloc hb1.size _⟩)
  have htb := inB_and ht
  have ht1 := htb.1
  have ht2 := htb.2
  by_cases hi2 : inB (t - x[k].made) 0 900 = true
  rotate_left
  · have hi3 : inB (t - x[k].made) 0 900 = false := by simpa using hi2
    have HC := Lib.hid (show (cAppeal t) x[k] = false by simp [cAppeal, hi3])
    clear hi2 hw htb
    go_enter Try.func39, Try.ntmps39
    go_wp2_with (first
      | (go_at_call 73; refine (l22Find_any x _ _ _ h).mono ?_; rintro e w' ⟨rfl, rfl⟩; rw [HI.out])
      | (go_at_call 64; refine (l22Good_any x _ _ h).mono ?_; rintro e w1 ⟨rfl, hb1⟩; rw [HG.out]; have hcs1 := hcs ⟨w1, hb1⟩; simp only at hcs1; have h1 := h.below (Flat.keeps _) hb1)
      | (go_at_call 66; refine (l12Time_any _ _).mono ?_; rintro e w' ⟨rfl, rfl⟩)
      | (go_at_call 68; refine (l1In_any _ _ _ _).mono ?_; rintro e w' ⟨rfl, rfl⟩))
    all_goals (
      go_ret2
      obtain ⟨e1, e2⟩ := with_unfit (f := fAppeal) hk HF.out HC.out
      rw [e1, e2]
      exact ⟨_, rfl, Row.lit_nil w1 _ _ hb1.size, hb1.alloc hb1.size _⟩)
  · have HC := Lib.hid (show (cAppeal t) x[k] = true by simp [cAppeal, hw, ht, hi2])
    clear hw htb
    go_enter Try.func39, Try.ntmps39
    go_wp2_with (first
      | (go_at_call 73; refine (l22Find_any x _ _ _ h).mono ?_; rintro e w' ⟨rfl, rfl⟩; rw [HI.out])
      | (go_at_call 64; refine (l22Good_any x _ _ h).mono ?_; rintro e w1 ⟨rfl, hb1⟩; rw [HG.out]; have hcs1 := hcs ⟨w1, hb1⟩; simp only at hcs1; have h1 := h.below (Flat.keeps _) hb1)
      | (go_at_call 66; refine (l12Time_any _ _).mono ?_; rintro e w' ⟨rfl, rfl⟩)
      | (go_at_call 68; refine (l1In_any _ _ _ _).mono ?_; rintro e w' ⟨rfl, rfl⟩))
    refine (l22With_any x _ k 4 0 _ h1 hk (by omega)).mono ?_
    rintro e w2 ⟨r, rfl, row, hb2⟩
    have hB2 := step_ hb1 (Nat.le_refl _) hb2
    have HE := Lib.hid (show (fAppeal) x[k] = { x[k] with state := 4, votes := 0 } by rfl)
    obtain ⟨b2, hgb⟩ : ∃ b2, good (x.set k ((fAppeal) x[k])) = b2 := ⟨_, rfl⟩
    rw [HE.out] at hgb
    rw [hgb] at row ⊢
    have HB := Lib.hid hgb
    clear hgb
    cases b2 with
    | true =>
      go_wp2
      go_ret2
      obtain ⟨e1, e2⟩ := with_fit (f := fAppeal) hk HF.out HG.out HC.out (by rw [HE.out]; exact HB.out)
      rw [e1, e2, HE.out]
      exact ⟨_, rfl, (by simpa using row.mono hb1.size), hB2⟩
    | false =>
      go_wp2
      go_ret2
      obtain ⟨e1, e2⟩ := with_after (c := cAppeal t) (f := fAppeal) hk HF.out (by rw [HE.out]; exact HB.out)
      rw [e1, e2]
      exact ⟨_, rfl, (by simpa using row.mono hb1.size), hB2⟩

end Go.Proofs.Ytabihggfnofcbaa
