/- The walks of the tests on scores. No condition. -/
import Derived.Test.YthhlfkeikcmnlaaZBase
import Derived.StillTailTactics
namespace Go.Proofs.Ythhlfkeikcmnlaa
open Go Go.RowKit

structure Score where
  runner : Int
  race : Int
  points : Int

def Score.lst (p : Score) : List Value := [.int .i64 p.runner, .int .i64 p.race, .int .i64 p.points]
theorem Score.lst_len (p : Score) : p.lst.length = 3 := rfl
abbrev Score.val (p : Score) : Value := .agg p.lst.toArray
theorem Score.one (p : Score) : ∀ u ∈ p.lst, u.oneCell' = true := by simp [Score.lst, Value.oneCell']
def Score.ok (p : Score) : Prop := I64 p.runner ∧ I64 p.race ∧ I64 p.points
def scoreZ : List Value := [.int .i64 0, .int .i64 0, .int .i64 0]
def scoreSh : Sh := .cat 3 (.int .i64) (.cat 3 (.int .i64) (.cat 3 (.int .i64) (.emp)))
theorem score_of_holds {w : World} {cs : List Value} (h : Holds w scoreSh cs) : ∃ p : Score, cs = p.lst ∧ p.ok := by
  obtain ⟨_, _, rfl, _, ⟨n0, rfl, w0⟩, _, _, rfl, _, ⟨n1, rfl, w1⟩, _, _, rfl, _, ⟨n2, rfl, w2⟩, rfl⟩ := h
  exact ⟨⟨n0, n1, n2⟩, rfl, i64_of_wf w0, i64_of_wf w1, i64_of_wf w2⟩
theorem Score.rangeNew (w : World) (p : Score) (t : TypeId) : (w.alloc (.cells #[.int .i64 p.runner, .int .i64 p.race, .int .i64 p.points] t)).rangeAt w.heap.size 0 p.lst := rangeAt_new w p.lst t
theorem Score.cells {w : World} {b off : Nat} {p : Score} (h : w.rangeAt b off p.lst) : w.cell? ⟨b, off, none⟩ = some (.int .i64 p.runner) ∧ w.cell? ⟨b, off + 1, none⟩ = some (.int .i64 p.race) ∧ w.cell? ⟨b, off + 2, none⟩ = some (.int .i64 p.points) :=
  ⟨h 0 _ rfl, h 1 _ rfl, h 2 _ rfl⟩
theorem Score.cellsNew (w : World) (p : Score) (t : TypeId) : ∀ s : After (w.alloc (.cells #[.int .i64 p.runner, .int .i64 p.race, .int .i64 p.points] t)), s.w'.cell? ⟨w.heap.size, 0, none⟩ = some (.int .i64 p.runner) ∧ s.w'.cell? ⟨w.heap.size, 1, none⟩ = some (.int .i64 p.race) ∧ s.w'.cell? ⟨w.heap.size, 2, none⟩ = some (.int .i64 p.points) := by
  intro s
  obtain ⟨h0, h1, h2⟩ := Score.cells (rangeAt_below (Score.rangeNew w p t) s.hb)
  simp only [Nat.zero_add] at h1 h2
  exact ⟨h0, h1, h2⟩
theorem Score.cellsOld {w : World} {b off : Nat} {p : Score} (h : w.rangeAt b off p.lst) : ∀ s : After w, s.w'.cell? ⟨b, off, none⟩ = some (.int .i64 p.runner) ∧ s.w'.cell? ⟨b, off + 1, none⟩ = some (.int .i64 p.race) ∧ s.w'.cell? ⟨b, off + 2, none⟩ = some (.int .i64 p.points) :=
  fun s => Score.cells (rangeAt_below h s.hb)
theorem stScoreLaws : St Try.prog 30 3 := ⟨⟨_, Try.underlying30⟩, by kernel_rfl⟩
theorem Score.loadLaws {w : World} {ops : Array Oper} {rest : List Oper} {o : Oper} {a : Act} {Q : Exit → Act → World → Prop} (hgd : o.guard = none) (x : Operand) (ho : o.op = .load 30 x) (b off : Nat) (hx : a.eval x = .pointer (some ⟨b, off, none⟩)) (p : Score) (hc : w.rangeAt b off p.lst)
    (h : wpList Try.prog ops Q rest (a.put o.dst (.agg #[.int .i64 p.runner, .int .i64 p.race, .int .i64 p.points])) w) : wpList Try.prog ops Q (o :: rest) a w := stScoreLaws.load hgd x ho b off hx p.lst rfl hc h
theorem Score.qloadLaws {w : World} {ops : Array Oper} {rest : List Oper} {o : Oper} {a : Act} {Q : Act → Prop} (hw : Region.wanted o (yielded ops a.tmps) = true) (x : Operand) (ho : o.op = .load 30 x) (b off : Nat) (hx : a.eval x = .pointer (some ⟨b, off, none⟩)) (p : Score) (hc : w.rangeAt b off p.lst)
    (h : wpQuiet Try.prog ops (Cl w) Q rest (a.put o.dst (.agg #[.int .i64 p.runner, .int .i64 p.race, .int .i64 p.points]))) : wpQuiet Try.prog ops (Cl w) Q (o :: rest) a := stScoreLaws.qload hw x ho b off hx p.lst rfl hc h
theorem stScoreImpl : St Try.prog 33 3 := ⟨⟨_, Try.underlying33⟩, by kernel_rfl⟩
theorem Score.loadImpl {w : World} {ops : Array Oper} {rest : List Oper} {o : Oper} {a : Act} {Q : Exit → Act → World → Prop} (hgd : o.guard = none) (x : Operand) (ho : o.op = .load 33 x) (b off : Nat) (hx : a.eval x = .pointer (some ⟨b, off, none⟩)) (p : Score) (hc : w.rangeAt b off p.lst)
    (h : wpList Try.prog ops Q rest (a.put o.dst (.agg #[.int .i64 p.runner, .int .i64 p.race, .int .i64 p.points])) w) : wpList Try.prog ops Q (o :: rest) a w := stScoreImpl.load hgd x ho b off hx p.lst rfl hc h
theorem Score.qloadImpl {w : World} {ops : Array Oper} {rest : List Oper} {o : Oper} {a : Act} {Q : Act → Prop} (hw : Region.wanted o (yielded ops a.tmps) = true) (x : Operand) (ho : o.op = .load 33 x) (b off : Nat) (hx : a.eval x = .pointer (some ⟨b, off, none⟩)) (p : Score) (hc : w.rangeAt b off p.lst)
    (h : wpQuiet Try.prog ops (Cl w) Q rest (a.put o.dst (.agg #[.int .i64 p.runner, .int .i64 p.race, .int .i64 p.points]))) : wpQuiet Try.prog ops (Cl w) Q (o :: rest) a := stScoreImpl.qload hw x ho b off hx p.lst rfl hc h
theorem tyScore : Ty Try.prog 25 33 (.agg scoreZ.toArray) scoreZ 3 24 := ⟨Try.underlying25, by kernel_rfl, rfl, rfl, by decide, by decide⟩
theorem fitScore : ∃ fs, Fit Try.prog (.str fs scoreSh) (.inl 30) := ⟨_, Try.underlying30, by kernel_rfl, ⟨_, _, rfl, rfl, rfl, by kernel_rfl, Try.underlying3, ⟨_, _, rfl, rfl, rfl, by kernel_rfl, Try.underlying3, ⟨_, _, rfl, rfl, rfl, by kernel_rfl, Try.underlying3, rfl⟩⟩⟩⟩
theorem fitScoreS : ∃ fs, Fit Try.prog (.sl 30 (.str fs scoreSh)) (.inl 22) := by
  obtain ⟨fs, h⟩ := fitScore
  exact ⟨fs, Try.underlying22, by kernel_rfl, by show 0 < scoreSh.size; decide, h⟩


set_option maxHeartbeats 400000 in
theorem toScore_any (p : Score) (w : World) :
    Calls Try.prog 20 #[p.val] w fun e w' => e = .returned p.val ∧ Below w.heap.size w w' := by
  obtain ⟨n0, n1, n2⟩ := p
  show Calls Try.prog 20 #[.agg #[.int .i64 n0, .int .i64 n1, .int .i64 n2]] w _
  go_enter Try.func20, Try.ntmps20
  go_wp2
  refine bodyPost_ret (v := .agg #[.int .i64 n0, .int .i64 n1, .int .i64 n2]) (by simp [results, Try.results20, go_sem]) rfl ⟨rfl, ?_⟩
  (repeat (first | exact Below.refl _ _ | assumption | refine Below.drew ?_ | refine Below.alloc ?_ (by first | exact Nat.le_refl _ | (simp; done) | (simp; omega)) _))

theorem szScoreS_any (ps : List Score) (v : Value) (left : Int) (w : World) (h : Sl (Flat Score.lst) 3 w v ps) (hl : 0 ≤ left) (hl2 : left ≤ 9223372036854775807) :
    Calls Try.prog 14 #[v, .int .i64 left] w fun e w' => e = .returned (.int .i64 (szLeft left ps.length)) ∧ w = w' := by
  obtain ⟨A, c, rfl, hc, hm, _⟩ := h.open_
  go_enter Try.func14, Try.ntmps14
  go_wp2
  all_goals go_ret
  · exact ⟨ret_int (by unfold szLeft; rw [if_pos (by omega)]), rfl⟩
  · exact ⟨ret_int (by unfold szLeft; rw [if_neg (by omega)]), rfl⟩

set_option maxHeartbeats 400000 in
theorem toScoreS_any (ps : List Score) (v : Value) (w : World) (h : Sl (Flat Score.lst) 3 w v ps) (hn : ps.length ≤ 1048576) :
    Calls Try.prog 16 #[v] w fun e w' => ∃ v', e = .returned v' ∧ Row w.heap.size 33 3 w' v' (ps.map Score.lst) ∧ Below w.heap.size w w' := by
  obtain ⟨A, c, rfl, hc, hm, hk⟩ := h.open_
  go_enter Try.func16, Try.ntmps16
  go_wp2_with (at_make; refine tyScore.make rfl _ _ rfl w.heap.size ps.length _ _ rfl rfl rfl rfl (by omega) (Nat.le_refl _) ?_; intro w1 hrow1 hb1 hz1)
  go_loopw [4] (fun i wr => ∃ k : Nat, k ≤ ps.length ∧ i = .int .i64 k ∧ Row w.heap.size 33 3 wr (.slice (some ⟨w.heap.size, 0, none⟩) ps.length ps.length) (mixed Score.lst scoreZ ps k) ∧ Below w.heap.size w wr ∧ w.heap.size < wr.heap.size)
    (fun i _ => ps.length - (intOf i).toNat)
  case atStart => exact ⟨0, Nat.zero_le _, rfl, by rw [mixed_zero]; exact hrow1, hb1, hz1⟩
  case round =>
    obtain ⟨k, hkl, rfl, hrow, hb, hz⟩ := hrel
    by_cases hlt : k < ps.length
    · obtain ⟨b, off, rfl, hat⟩ := flat_at hk (by omega)
      have hr := rangeAt_below (hat k hlt) hb
      have hkm : k < (mixed Score.lst scoreZ ps k).length := by rw [mixed_len hkl]; exact hlt
      go_wp2_with (first
        | (refine stScoreLaws.load rfl _ rfl b (off + k * 3) rfl ps[k].lst rfl hr ?_)
        | (go_at_call 20; refine (toScore_any ps[k] _).mono ?_; rintro e w2 ⟨rfl, hb2⟩; have hrow2 := hrow.below hb2)
        | (refine tyScore.store rfl _ _ rfl w.heap.size w.heap.size ps.length ps.length k _ _ ps[k].lst hrow2 hkm rfl rfl rfl rfl ps[k].one ?_; intro w3 hrow3 hg3))
      go_roundw
      case rel => exact ⟨k + 1, by omega, by go_num, by rw [← mixed_set Score.lst scoreZ ps k hlt]; exact hrow3, (hb.trans (hb2.mono hb.size)).grown hg3 (Nat.le_trans hb.size hb2.size) (by simp), Nat.lt_of_lt_of_le hz (Nat.le_trans hb2.size hg3.size)⟩
      case measure => simp [intOf]; omega
    · go_wp2
      go_ret
      obtain rfl : k = ps.length := by omega
      rw [mixed_all] at hrow
      exact ⟨_, rfl, hrow, hb⟩

set_option maxHeartbeats 1000000 in
theorem eqScore_refl (p : Score) (w : World) :
    Calls Try.prog 56 #[p.val, p.val] w fun e w' => e = .returned (.bool true) ∧ Below w.heap.size w w' := by
  obtain ⟨n0, n1, n2⟩ := p
  show Calls Try.prog 56 #[.agg #[.int .i64 n0, .int .i64 n1, .int .i64 n2], .agg #[.int .i64 n0, .int .i64 n1, .int .i64 n2]] w _
  go_enter Try.func56, Try.ntmps56
  go_wp2
  go_ret
  refine ⟨rfl, ?_⟩
  (repeat (first | exact Below.refl _ _ | assumption | refine Below.drew ?_ | refine Below.alloc ?_ (by first | exact Nat.le_refl _ | (simp; done) | (simp; omega)) _))

set_option maxHeartbeats 400000 in
theorem eqScoreS_refl (ps : List Score) (v v' : Value) (w : World) (h : Sl (Flat Score.lst) 3 w v ps) (h' : Sl (Flat Score.lst) 3 w v' ps) :
    Calls Try.prog 18 #[v, v'] w fun e w' => e = .returned (.bool true) ∧ Below w.heap.size w w' := by
  obtain ⟨A, c, rfl, hc, hm, hk⟩ := h.open_
  obtain ⟨A', c', rfl, hc', hm', hk'⟩ := h'.open_
  go_enter Try.func18, Try.ntmps18
  go_wp2
  go_loopw [5] (fun i wr => ∃ k : Nat, k ≤ ps.length ∧ i = .int .i64 k ∧ Below w.heap.size w wr)
    (fun i _ => ps.length - (intOf i).toNat)
  case atStart => exact ⟨0, Nat.zero_le _, rfl, Below.refl _ _⟩
  case round =>
    obtain ⟨k, hkl, rfl, hb⟩ := hrel
    by_cases hlt : k < ps.length
    · obtain ⟨b, off, rfl, hat⟩ := flat_at hk (by omega)
      obtain ⟨b', off', rfl, hat'⟩ := flat_at hk' (by omega)
      have hr := rangeAt_below (hat k hlt) hb
      have hr' := rangeAt_below (hat' k hlt) hb
      clear hat hat' hk hk' h h'
      go_wp2
      refine region_after (by kernel_rfl) (by kernel_rfl) ?_
      repeat (any_goals (first | go_big_quiet_step (((go_at_call 56; exact Calls.after (v := .bool true) _ (eqScore_refl ps[k] _)))) | (refine Score.qloadImpl rfl _ rfl _ _ rfl ps[k] hr ?_) | (refine Score.qloadImpl rfl _ rfl _ _ rfl ps[k] hr' ?_) | quiet_step (((go_at_call 56; exact Calls.after (v := .bool true) _ (eqScore_refl ps[k] _))))))
      refine wpQuiet_nil ?_
      intro s
      go_wp2
      go_roundw
      case rel => exact ⟨k + 1, by omega, by go_num, step_ hb (Nat.le_refl _) s.hb⟩
      case measure => simp [intOf]; omega
    · go_wp2
      go_ret
      exact ⟨rfl, hb⟩

def scoreMark (k : Int) (i : Nat) : Score := ⟨k + (3 * i + 0 : Nat), k + (3 * i + 1 : Nat), k + (3 * i + 2 : Nat)⟩
def scoreMarks (k : Int) (n : Nat) : List Score := (List.range n).map (scoreMark k)
theorem scoreMarks_len (k : Int) (n : Nat) : (scoreMarks k n).length = n := by simp [scoreMarks]
theorem scoreMark_sets (l : List Value) (h : l.length = 3) (u0 u1 u2 : Value) : ((l.set 0 u0).set 1 u1).set 2 u2 = [u0, u1, u2] := by
  match l, h with
  | [_, _, _], _ => rfl

set_option maxHeartbeats 1000000 in
theorem markScoreS_any (base : Nat) (v : Value) (ys : List (List Value)) (k : Int) (w : World) (h : Row base 33 3 w v ys) (hl : ys.length ≤ 2147483648) (h0 : 0 ≤ k) (h1 : k ≤ 4611686018427387904) :
    Calls Try.prog 22 #[v, .int .i64 k] w fun e w' => e = .returned (.int .i64 (k + (3 * ys.length : Nat))) ∧ Row base 33 3 w' v ((scoreMarks k ys.length).map Score.lst) ∧ w.grownBy w' v.ownBlock := by
  have hm0 : (scoreMarks k 0).map Score.lst = [] := rfl
  by_cases hn : 0 < ys.length
  · obtain ⟨g, cap, rfl, hb, hgl, hcap⟩ := h.form hn
    have hcm : cap ≤ 9223372036854775807 := by
      rcases h.2.2 with ⟨h1, _⟩ | ⟨g', cap', cur, h1, _, _, _, hm, _⟩ <;> simp at h1
      simp only [maxLen] at hm; omega
    go_enter Try.func22, Try.ntmps22
    go_wp2
    go_loopw [1, 5] (fun kk i wr => ∃ j : Nat, j ≤ ys.length ∧ kk = .int .i64 (k + (3 * j : Nat)) ∧ i = .int .i64 j ∧ Row base 33 3 wr (.slice (some ⟨g, 0, none⟩) ys.length cap) (turned (fun i => (scoreMark k i).lst) ys j) ∧ w.grownBy wr (some g))
      (fun _ i _ => ys.length - (intOf i).toNat)
    case atStart => exact ⟨0, Nat.zero_le _, by simp, rfl, by rw [turned_zero]; exact h, World.grownBy.refl _ _⟩
    case round =>
      obtain ⟨j, hjl, rfl, rfl, hrow0, hgr⟩ := hrel
      by_cases hlt : j < ys.length
      · have hlt0 : j < (turned (fun i => (scoreMark k i).lst) ys j).length := by rw [turned_len hjl]; exact hlt
        go_wp2_with (first
        | (refine put1_ (e := 33) (sz := 3) rfl _ _ _ rfl infoInt base g ys.length cap j 0 _ _ _ hrow0 ?_ (by omega) rfl rfl rfl ?_; (simpa using hlt0); intro w1 hrow1 hg1)
        | (refine put1_ (e := 33) (sz := 3) rfl _ _ _ rfl infoInt base g ys.length cap j 1 _ _ _ hrow1 ?_ (by omega) rfl rfl rfl ?_; (simpa using hlt0); intro w2 hrow2 hg2)
        | (refine put1_ (e := 33) (sz := 3) rfl _ _ _ rfl infoInt base g ys.length cap j 2 _ _ _ hrow2 ?_ (by omega) rfl rfl rfl ?_; (simpa using hlt0); intro w3 hrow3 hg3))
        go_roundw
        case rel =>
          refine ⟨j + 1, by omega, by go_num, by go_num, ?_, (grown_trans (grown_trans (grown_trans hgr hg1) hg2) hg3)⟩
          rw [← turned_set _ ys j hlt]
          simp only [List.set_set, List.getElem_set_self] at hrow3
          rw [scoreMark_sets _ (hrow0.1 _ (List.getElem_mem _))] at hrow3
          refine Row.set_eq hrow3 ?_
          simp [scoreMark, Score.lst]
          omega
        case measure => simp [intOf]; omega
      · go_wp2
        go_ret
        obtain rfl : j = ys.length := by omega
        rw [turned_all] at hrow0
        refine ⟨rfl, ?_, hgr⟩
        simpa [scoreMarks, Function.comp_def] using hrow0
  · have hy : ys = [] := List.eq_nil_of_length_eq_zero (by omega)
    subst hy
    obtain ⟨A, c, rfl⟩ : ∃ A c, v = .slice A 0 c := by
      rcases h.2.2 with ⟨h1, _⟩ | ⟨g', cap', cur, h1, _⟩
      · exact ⟨_, _, h1⟩
      · exact ⟨_, _, h1⟩
    go_enter Try.func22, Try.ntmps22
    go_wp2
    go_loop [1, 5] (fun kk i => kk = .int .i64 k ∧ i = .int .i64 0) (fun _ _ => 0)
    case atStart => exact ⟨rfl, rfl⟩
    case round =>
      obtain ⟨rfl, rfl⟩ := hrel
      go_wp2
      go_ret
      exact ⟨ret_int (by simp), by simpa using h, World.grownBy.refl _ _⟩

set_option maxHeartbeats 1000000 in
theorem heldScoreS_any (v : Value) (n : Nat) (k : Int) (w : World) (h : Sl (Flat Score.lst) 3 w v (scoreMarks k n)) (hl : n ≤ 2147483648) (h0 : 0 ≤ k) (h1 : k ≤ 4611686018427387904) :
    Calls Try.prog 23 #[v, .int .i64 k] w fun e w' => e = .returned (.int .i64 (k + (3 * n : Nat))) ∧ w = w' := by
  obtain ⟨A, c, rfl, hc, hm, hk⟩ := h.open_
  have hlen := scoreMarks_len k n
  rw [hlen] at hc
  go_enter Try.func23, Try.ntmps23
  rw [hlen]
  go_wp2
  go_loop [1, 5] (fun kk i => ∃ j : Nat, j ≤ n ∧ kk = .int .i64 (k + (3 * j : Nat)) ∧ i = .int .i64 j)
    (fun _ i => n - (intOf i).toNat)
  case atStart => exact ⟨0, Nat.zero_le _, by simp, rfl⟩
  case round =>
    obtain ⟨j, hjl, rfl, rfl⟩ := hrel
    by_cases hlt : j < n
    · obtain ⟨b, off, rfl, hat⟩ := flat_at hk (by omega)
      have hcs := Score.cells (hat j (by omega))
      have e1 : (scoreMarks k n)[j]'(by omega) = scoreMark k j := by simp [scoreMarks]
      rw [e1] at hcs
      simp only [scoreMark] at hcs
      clear hat hk h e1
      go_wp2
      go_round
      case rel => exact ⟨j + 1, by omega, by go_num, by go_num⟩
      case measure => simp [intOf]; omega
    · go_wp2
      go_ret
      obtain rfl : j = n := by omega
      exact ⟨rfl, rfl⟩


/-- A guard: the operation is a load of this type. -/
theorem at_load_ (t : TypeId) {P : Program} {ops : Array Oper} {Q : Exit → Act → World → Prop} {d : Option Tmp} {x : Operand} {ty : TypeId} {pos : String} {af : Array Edge} {g : Option (Nat × Bool)} {rest : List Oper} {a : Act} {w : World}
    (h : wpList P ops Q (⟨d, .load t x, ty, pos, af, g⟩ :: rest) a w) : wpList P ops Q (⟨d, .load t x, ty, pos, af, g⟩ :: rest) a w := h
theorem lit2_cells (W : World) (e : TypeId) (x y : Value) (g : Nat) (hg : W.heap.size = g) : (W.alloc (.cells #[x, y] e)).drew.cell? ⟨g, 0, none⟩ = some x ∧ (W.alloc (.cells #[x, y] e)).drew.cell? ⟨g, 1, none⟩ = some y := by
  subst hg
  have h := rangeAt_new W [x, y] e
  exact ⟨h 0 _ rfl, h 1 _ rfl⟩
def cmpS (a b : Score) : Int := orI (cmpI a.runner b.runner) (cmpI a.race b.race)
set_option maxRecDepth 100000 in
set_option maxHeartbeats 1000000 in
theorem compareScores_any (p q : Score) (w : World) : Calls Try.prog 55 #[p.val, q.val] w fun e w' => e = .returned (.int .i64 (cmpS p q)) ∧ Below w.heap.size w w' := by
  obtain ⟨a, b, c⟩ := p
  obtain ⟨a', b', c'⟩ := q
  show Calls Try.prog 55 #[.agg #[.int .i64 a, .int .i64 b, .int .i64 c], .agg #[.int .i64 a', .int .i64 b', .int .i64 c']] w _
  have f12 : ∀ x y : Int, (((w.alloc (.cells #[.int .i64 a, .int .i64 b, .int .i64 c] 33)).alloc (.cells #[.int .i64 a', .int .i64 b', .int .i64 c'] 33)).alloc (.cells #[.int .i64 x, .int .i64 y] 3)).drew.cell? ⟨w.heap.size + 1 + 1, 0, none⟩ = some (.int .i64 x) ∧
      (((w.alloc (.cells #[.int .i64 a, .int .i64 b, .int .i64 c] 33)).alloc (.cells #[.int .i64 a', .int .i64 b', .int .i64 c'] 33)).alloc (.cells #[.int .i64 x, .int .i64 y] 3)).drew.cell? ⟨w.heap.size + 1 + 1, 1, none⟩ = some (.int .i64 y) :=
    fun x y => lit2_cells _ _ _ _ _ (by simp)
  have F12 := Lib.hid f12
  clear f12
  go_enter Try.func55, Try.ntmps55
  go_wp2
  refine wp_region_still_tail 10 (by kernel_rfl) (by kernel_rfl) ?_
  change wpStill _ _ (World.drew _) (fun a' => wpList _ _ _ _ a' (World.drew _)) _ _
  simp only [List.take_succ_cons, List.take_zero, List.drop_succ_cons, List.drop_zero]
  iterate 4 still_step
  still_call ((compare_any _ _ _).mono (fun e w' h => ⟨h.1, h.2.symm⟩))
  iterate 4 still_step
  still_call ((compare_any _ _ _).mono (fun e w' h => ⟨h.1, h.2.symm⟩))
  refine wpStill_nil ?_
  have hX := Lib.hid (show orI (cmpI a a') (cmpI b b') = cmpS ⟨a, b, c⟩ ⟨a', b', c'⟩ from rfl)
  revert hX
  generalize cmpI a a' = x
  generalize cmpI b b' = y
  intro hX
  go_wp2_with (go_at_call 86; refine (or_any x y (w.heap.size + 1 + 1) _ (F12.out x y).1 (F12.out x y).2).mono ?_; rintro e w' ⟨rfl, rfl⟩)
  go_ret
  refine ⟨ret_int hX.out, ?_⟩
  (repeat (first | exact Below.refl _ _ | assumption | refine Below.drew ?_ | refine Below.alloc ?_ (by first | exact Nat.le_refl _ | (simp; done) | (simp; omega)) _))
end Go.Proofs.Ythhlfkeikcmnlaa
