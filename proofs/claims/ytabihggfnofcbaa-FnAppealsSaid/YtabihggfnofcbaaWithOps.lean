/- The walks of the program's HearProtest, DecideProtest, VoteOn, AppealProtest. No condition. -/
import Derived.Test.YtabihggfnofcbaaWithP
namespace Go.Proofs.Ytabihggfnofcbaa
open Go Go.RowKit

theorem lit_ints (w : World) (xs : List Int) (n : Nat) (hl : xs.length = n) (hn : n ≤ 1048576) (cs : Array Value) (hcs : cs = (xs.map ints).flatten.toArray) : Sl (Flat ints) 1 (w.alloc (.cells cs 3)) (.slice (some ⟨w.heap.size, 0, none⟩) n n) xs := by
  subst hl
  have := Row.lit w 3 1 (xs.map ints) (by intro y hy; obtain ⟨a, _, rfl⟩ := List.mem_map.1 hy; rfl) (by simp [maxLen]; omega) (Nat.le_refl _) cs hcs
  refine Sl.of_flat (base := w.heap.size) (e := 3) ?_
  simpa using this
theorem with_congr {x : List Prot} {id : Int} {c c' : Prot → Bool} {f : Prot → Prot} {k : Nat} (hk : k < x.length) (h : x.findIdx? (hasId id) = some k) (hc : c x[k] = c' x[k]) : wOut x id c f = wOut x id c' f ∧ wOk x id c f = wOk x id c' f := by
  have : withM x id c f = withM x id c' f := by
    unfold withM
    rw [h]
    simp [List.getElem?_eq_getElem hk, hc]
  simp [wOut, wOk, this]

set_option maxHeartbeats 1000000 in
theorem impl_HearProtest (x : List Prot) (v : Value) (id : Int) (w : World) (h : Sl (Flat Prot.lst) 6 w v x) (_ : ∀ p ∈ x, Prot.ok p) (_ : I64 id) :
    Calls Try.prog 38 #[v, .int .i64 id] w fun e w' => ∃ r, e = .returned (.tuple #[r, .bool (wOk x id (cHear) (fHear))]) ∧ Row w.heap.size 25 6 w' r ((wOut x id (cHear) (fHear)).map Prot.lst) ∧ Below w.heap.size w w' := by
  have hB0 : Below w.heap.size w (w.alloc (.cells #[.int .i64 0, .int .i64 4] 3)) := by (repeat (first | exact Below.refl _ _ | assumption | refine Below.drew ?_ | refine Below.alloc ?_ (by first | exact Nat.le_refl _ | (simp; done) | (simp; omega)) _))
  have hs0 : Sl (Flat ints) 1 (w.alloc (.cells #[.int .i64 0, .int .i64 4] 3)) (.slice (some ⟨w.heap.size, 0, none⟩) 2 2) [0, 4] := lit_ints w [0, 4] 2 rfl (by omega) _ rfl
  skip
  skip
  go_enter Try.func38, Try.ntmps38
  go_wp2_with fail
  generalize w.alloc (.cells #[.int .i64 0, .int .i64 4] 3) = W0 at hB0 hs0 ⊢
  refine (withProtest_76 (cHear) (fHear) [0, 4] x _ _ id _ (h.below (Flat.keeps _) hB0) hs0 (fun p => by simp [cHear]) (fun W g n cap k hk hbW hrow hgd hck => hear1_any _ g n cap k x W hrow hk)).mono ?_
  rintro e w1 ⟨r, rfl, row, hb1⟩
  go_wp2
  go_ret2
  exact ⟨_, rfl, row.mono hB0.size, step_ hB0 (Nat.le_refl _) hb1⟩

set_option maxHeartbeats 1000000 in
theorem impl_DecideProtest (x : List Prot) (v : Value) (id : Int) (w : World) (h : Sl (Flat Prot.lst) 6 w v x) (_ : ∀ p ∈ x, Prot.ok p) (_ : I64 id) :
    Calls Try.prog 42 #[v, .int .i64 id] w fun e w' => ∃ r, e = .returned (.tuple #[r, .bool (wOk x id (cOpen) (fDecide))]) ∧ Row w.heap.size 25 6 w' r ((wOut x id (cOpen) (fDecide)).map Prot.lst) ∧ Below w.heap.size w w' := by
  have hB0 : Below w.heap.size w (w.alloc (.cells #[.int .i64 1] 3)) := by (repeat (first | exact Below.refl _ _ | assumption | refine Below.drew ?_ | refine Below.alloc ?_ (by first | exact Nat.le_refl _ | (simp; done) | (simp; omega)) _))
  have hs0 : Sl (Flat ints) 1 (w.alloc (.cells #[.int .i64 1] 3)) (.slice (some ⟨w.heap.size, 0, none⟩) 1 1) [1] := lit_ints w [1] 1 rfl (by omega) _ rfl
  skip
  skip
  go_enter Try.func42, Try.ntmps42
  go_wp2_with fail
  generalize w.alloc (.cells #[.int .i64 1] 3) = W0 at hB0 hs0 ⊢
  refine (withProtest_80 (cOpen) (fDecide) [1] x _ _ id _ (h.below (Flat.keeps _) hB0) hs0 (fun p => by simp [cOpen]) (fun W g n cap k hk hbW hrow hgd hck => decide1_any _ g n cap k x W hrow hk)).mono ?_
  rintro e w1 ⟨r, rfl, row, hb1⟩
  go_wp2
  go_ret2
  exact ⟨_, rfl, row.mono hB0.size, step_ hB0 (Nat.le_refl _) hb1⟩

set_option maxHeartbeats 1000000 in
theorem impl_VoteOn (x : List Prot) (v : Value) (id : Int) (pro : Bool) (w : World) (h : Sl (Flat Prot.lst) 6 w v x) (_ : ∀ p ∈ x, Prot.ok p) (_ : I64 id) :
    Calls Try.prog 44 #[v, .int .i64 id, .bool pro] w fun e w' => ∃ r, e = .returned (.tuple #[r, .bool (wOk x id (cOpen) (fVote pro))]) ∧ Row w.heap.size 25 6 w' r ((wOut x id (cOpen) (fVote pro)).map Prot.lst) ∧ Below w.heap.size w w' := by
  have hB0 : Below w.heap.size w ((w.alloc (.cells #[.bool pro] 4)).alloc (.cells #[.int .i64 1] 3)) := by (repeat (first | exact Below.refl _ _ | assumption | refine Below.drew ?_ | refine Below.alloc ?_ (by first | exact Nat.le_refl _ | (simp; done) | (simp; omega)) _))
  have hs0 : Sl (Flat ints) 1 ((w.alloc (.cells #[.bool pro] 4)).alloc (.cells #[.int .i64 1] 3)) (.slice (some ⟨(w.alloc (.cells #[.bool pro] 4)).heap.size, 0, none⟩) 1 1) [1] := lit_ints (w.alloc (.cells #[.bool pro] 4)) [1] 1 rfl (by omega) _ rfl
  have hc0 : ((w.alloc (.cells #[.bool pro] 4)).alloc (.cells #[.int .i64 1] 3)).cell? ⟨w.heap.size, 0, none⟩ = some (.bool pro) := (Below.alloc (Below.refl _ _) (Nat.le_refl _) _ : Below (w.alloc (.cells #[.bool pro] 4)).heap.size (w.alloc (.cells #[.bool pro] 4)) _).cell (p := ⟨w.heap.size, 0, none⟩) (by simp) |>.trans (rangeAt_new w [.bool pro] 4 0 _ rfl)
  simp only [World.size_alloc] at hs0
  go_enter Try.func44, Try.ntmps44
  go_wp2_with fail
  generalize (w.alloc (.cells #[.bool pro] 4)).alloc (.cells #[.int .i64 1] 3) = W0 at hB0 hs0 hc0 ⊢
  refine (withProtest_81 _ _ (cOpen) (fVote pro) [1] x _ _ id _ (h.below (Flat.keeps _) hB0) hs0 (fun p => by simp [cOpen]) (fun W g n cap k hk hbW hrow hgd hck => vote1_any pro _ _ _ g n cap k x W hrow hk (After.keep hc0 ⟨W, hbW⟩) (by simpa [cOpen] using hck) (specOne_bounds (good_at hgd hk)).2.2.2.2.2.1 (specOne_bounds (good_at hgd hk)).2.2.2.2.2.2)).mono ?_
  rintro e w1 ⟨r, rfl, row, hb1⟩
  go_wp2
  go_ret2
  exact ⟨_, rfl, row.mono hB0.size, step_ hB0 (Nat.le_refl _) hb1⟩

set_option maxHeartbeats 1000000 in
theorem canAppeal_some (p : Prot) (t : Int) (w : World) : Calls Try.prog 72 #[p.val, .int .i64 t] w fun e w' => ∃ b : Bool, e = .returned (.bool b) ∧ Below w.heap.size w w' := by
  obtain ⟨a, b, c, d, s, v⟩ := p
  show Calls Try.prog 72 #[.agg #[.int .i64 a, .int .i64 b, .int .i64 c, .int .i64 d, .int .i64 s, .int .i64 v], .int .i64 t] w _
  go_enter Try.func72, Try.ntmps72
  go_wp2_with (first
    | (go_at_call 61; refine (inside_any _ _ _ _).mono ?_; rintro e w' ⟨rfl, rfl⟩)
    | (go_at_call 63; refine (isTime_any _ _).mono ?_; rintro e w' ⟨rfl, rfl⟩))
  all_goals go_ret
  all_goals refine ⟨_, rfl, ?_⟩
  all_goals (repeat (first | exact Below.refl _ _ | assumption | refine Below.drew ?_ | refine Below.alloc ?_ (by first | exact Nat.le_refl _ | (simp; done) | (simp; omega)) _))

set_option maxHeartbeats 1000000 in
theorem canAppeal_all (p : Prot) (t : Int) (w : World) (hm : 0 ≤ p.made) (hm2 : p.made ≤ 36000) : Calls Try.prog 72 #[p.val, .int .i64 t] w fun e w' => e = .returned (.bool (cAppeal t p)) ∧ Below w.heap.size w w' := by
  obtain ⟨a, b, c, d, s, v⟩ := p
  simp only at hm hm2
  show Calls Try.prog 72 #[.agg #[.int .i64 a, .int .i64 b, .int .i64 c, .int .i64 d, .int .i64 s, .int .i64 v], .int .i64 t] w _
  go_enter Try.func72, Try.ntmps72
  go_wp2_with (first
    | (go_at_call 61; refine (inside_any _ _ _ _).mono ?_; rintro e w' ⟨rfl, rfl⟩)
    | (go_at_call 63; refine (isTime_any _ _).mono ?_; rintro e w' ⟨rfl, rfl⟩))
  all_goals go_ret
  all_goals refine ⟨ret_bool ?_, ?_⟩
  all_goals first
    | ((repeat (first | exact Below.refl _ _ | assumption | refine Below.drew ?_ | refine Below.alloc ?_ (by first | exact Nat.le_refl _ | (simp; done) | (simp; omega)) _)); done)
    | (simp [cAppeal, *]; done)
    | (simp [cAppeal, inB_shift, *]; done)

def st3 (p : Prot) : Bool := p.state == 3
set_option maxHeartbeats 2000000 in
theorem impl_AppealProtest (x : List Prot) (v : Value) (id t : Int) (w : World) (h : Sl (Flat Prot.lst) 6 w v x) (_ : ∀ p ∈ x, Prot.ok p) (_ : I64 id) (_ : I64 t) :
    Calls Try.prog 40 #[v, .int .i64 id, .int .i64 t] w fun e w' => ∃ r, e = .returned (.tuple #[r, .bool (wOk x id (cAppeal t) fAppeal)]) ∧ Row w.heap.size 25 6 w' r ((wOut x id (cAppeal t) fAppeal).map Prot.lst) ∧ Below w.heap.size w w' := by
  have hB0 : Below w.heap.size w (w.alloc (.cells #[.int .i64 id] 3)) := by (repeat (first | exact Below.refl _ _ | assumption | refine Below.drew ?_ | refine Below.alloc ?_ (by first | exact Nat.le_refl _ | (simp; done) | (simp; omega)) _))
  have hc0 : (w.alloc (.cells #[.int .i64 id] 3)).cell? ⟨w.heap.size, 0, none⟩ = some (.int .i64 id) := rangeAt_new w [.int .i64 id] 3 0 _ rfl
  rcases find_cases x id with ⟨hfd, hi⟩ | ⟨k, hk, hfd, hi⟩
  · obtain ⟨e1, e2⟩ := with_none (c := cAppeal t) (f := fAppeal) hfd
    rw [e1, e2]
    clear e1 e2 hfd
    go_enter Try.func40, Try.ntmps40
    go_wp2_with fail
    generalize w.alloc (.cells #[.int .i64 id] 3) = W0 at hB0 hc0 ⊢
    refine (indexFunc_78 _ (hasId id) x _ _ (h.below (Flat.keeps _) hB0) (fun s k hk => hasId_78 x[k] id _ _ _ (After.keep hc0 s))).mono ?_
    rintro e w1 ⟨rfl, hb1⟩
    rw [hi]
    go_wp2
    go_ret2
    exact ⟨_, rfl, Row.nil _ _ _ _, step_ hB0 (Nat.le_refl _) hb1⟩
  have HD := Lib.hid hfd
  have HI := Lib.hid hi
  clear hfd hi
  obtain ⟨A, cc, rfl, hcc, hm, hk0⟩ := h.open_
  obtain ⟨b, off, rfl, hat⟩ := flat_at hk0 (by omega)
  have hr0 := hat k hk
  clear hat hk0
  -- what the test answers; where it answers yes, the change is the test's
  have key : ∃ bb : Bool, (∀ W, Calls Try.prog 72 #[x[k].val, .int .i64 t] W fun e w' => (∃ b : Bool, e = .returned (.bool b) ∧ (good x = true → b = cAppeal t x[k])) ∧ Below W.heap.size W w') ∧ bb = good x := by
    refine ⟨_, fun W => ?_, rfl⟩
    by_cases hg : good x = true
    · have bd := (specOne_bounds (good_at hg hk)).2.2.2.1
      exact (canAppeal_all x[k] t W bd.1 bd.2).mono fun e w' ⟨he, hb⟩ => ⟨⟨_, he, fun _ => rfl⟩, hb⟩
    · exact (canAppeal_some x[k] t W).mono fun e w' ⟨b, he, hb⟩ => ⟨⟨b, he, fun h => absurd h hg⟩, hb⟩
  obtain ⟨_, hkey, _⟩ := key
  have HK := Lib.hid hkey
  clear hkey
  go_enter Try.func40, Try.ntmps40
  go_wp2_with fail
  generalize w.alloc (.cells #[.int .i64 id] 3) = W0 at hB0 hc0 ⊢
  refine (indexFunc_78 _ (hasId id) x _ _ (h.below (Flat.keeps _) hB0) (fun s k hk => hasId_78 x[k] id _ _ _ (After.keep hc0 s))).mono ?_
  rintro e w1 ⟨rfl, hb1⟩
  rw [HI.out]
  have hB1 := step_ hB0 (Nat.le_refl _) hb1
  have hr1 := rangeAt_below hr0 hB1
  have hcs1 := Prot.cells hr1
  go_wp2_with fail
  refine (HK.out _).mono ?_
  rintro e w2 ⟨⟨ba, rfl, hba⟩, hb2⟩
  have HBA := Lib.hid hba
  clear hba
  have hB2 := step_ hB1 (Nat.le_refl _) hb2
  have hc1 := After.keep (After.keep hc0 ⟨w1, hb1⟩) ⟨w2, hb2⟩
  simp only at hc1
  cases ba with
  | false =>
    go_wp2
    go_ret2
    have hz : wOut x id (cAppeal t) fAppeal = [] ∧ wOk x id (cAppeal t) fAppeal = false := by
      by_cases hg : good x = true
      · exact with_unfit hk HD.out (HBA.out hg).symm
      · exact with_bad (by simpa using hg)
    rw [hz.1, hz.2]
    exact ⟨_, rfl, Row.nil _ _ _ _, hB2⟩
  | true =>
    have hs0 : Sl (Flat ints) 1 (w2.alloc (.cells #[.int .i64 3] 3)) (.slice (some ⟨w2.heap.size, 0, none⟩) 1 1) [3] := lit_ints w2 [3] 1 rfl (by omega) _ rfl
    have hB3 := hB2.alloc hB2.size (.cells #[.int .i64 3] 3)
    go_wp2_with fail
    generalize w2.alloc (.cells #[.int .i64 3] 3) = W3 at hB3 hs0 ⊢
    refine (withProtest_79 st3 fAppeal [3] x _ _ id _ (h.below (Flat.keeps _) hB3) hs0 (fun p => by simp [st3]) (fun W g n cap k hk _ hrow _ _ => appeal2_any _ g n cap k x W hrow hk)).mono ?_
    rintro e w4 ⟨r, rfl, row, hb4⟩
    have hz : wOut x id (cAppeal t) fAppeal = wOut x id st3 fAppeal ∧ wOk x id (cAppeal t) fAppeal = wOk x id st3 fAppeal := by
      by_cases hg : good x = true
      · refine with_congr hk HD.out ?_
        have h1 := (HBA.out hg).symm
        rw [h1]
        simp only [cAppeal, Bool.and_eq_true] at h1
        simp [st3]
        simpa using h1.1.1.symm
      · have a := with_bad (id := id) (c := cAppeal t) (f := fAppeal) (show good x = false by simpa using hg)
        have b := with_bad (id := id) (c := st3) (f := fAppeal) (show good x = false by simpa using hg)
        rw [a.1, a.2, b.1, b.2]
        exact ⟨rfl, rfl⟩
    have HZ := Lib.hid hz
    clear hz
    go_wp2
    go_ret2
    rw [HZ.out.1, HZ.out.2]
    exact ⟨_, rfl, row.mono hB3.size, step_ hB3 (Nat.le_refl _) hb4⟩
end Go.Proofs.Ytabihggfnofcbaa
