/- Runs: their cells, and the law's own copies, sizes and comparisons. No condition. -/
import Derived.Test.YtojpklpfnmjikaaCd
import Derived.Test.YtojpklpfnmjikaaFrame
namespace Go.Proofs.Ytojpklpfnmjikaa
open Go Go.RowKit
/-- What it means. -/
structure RunK where
  runner : Int
  started : Bool
  out : Bool
  card : CdK
structure Run where
  runner : Int
  started : Bool
  out : Bool
  card : Card
def Run.k (p : Run) : RunK := ⟨p.runner, p.started, p.out, p.card.k⟩
def Run.lst (p : Run) : List Value := [.int .i64 p.runner, .bool p.started, .bool p.out, .int .i64 p.card.k.number, .int .i64 p.card.k.start, .int .i64 p.card.k.finish, .slice p.card.a p.card.n p.card.c]
theorem Run.lst_len (p : Run) : p.lst.length = 7 := rfl
abbrev Run.val (p : Run) : Value := .agg p.lst.toArray
theorem Run.one (p : Run) : ∀ u ∈ p.lst, u.oneCell' = true := by simp [Run.lst, Value.oneCell']
/-- A slice of them. -/
def RunS (w : World) (v : Value) (xs : List Run) : Prop := Sl (Flat Run.lst) 7 w v xs ∧ ∀ p ∈ xs, p.card.In w
theorem RunS.below {w w' : World} {v : Value} {xs : List Run} (h : RunS w v xs) (hb : Below w.heap.size w w') : RunS w' v xs := ⟨h.1.below (Flat.keeps _) hb, fun p hp => (h.2 p hp).below hb⟩
def RunK.ok (p : RunK) : Prop := I64 p.runner ∧ p.card.ok
def runZ : List Value := [.int .i64 0, .bool false, .bool false, .int .i64 0, .int .i64 0, .int .i64 0, .slice none 0 0]
def runSh (fc fp : Array Field) : Sh := .cat 3 (.int .i64) (.cat 4 (.bool) (.cat 4 (.bool) (.cat 62 (.str fc (cardSh fp)) .emp)))
theorem run_of_holds {fc fp : Array Field} {w : World} {cs : List Value} (h : Holds w (runSh fc fp) cs) : ∃ p : Run, cs = p.lst ∧ p.card.In w ∧ p.k.ok := by
  obtain ⟨_, _, rfl, _, ⟨n0, rfl, w0⟩, _, _, rfl, _, ⟨n1, rfl⟩, _, _, rfl, _, ⟨n2, rfl⟩, _, _, rfl, _, h1, rfl⟩ := h
  obtain ⟨d, rfl, hi, hok⟩ := card_of_holds h1
  exact ⟨⟨n0, n1, n2, d⟩, by simp [Run.lst, Card.lst], hi, i64_of_wf w0, hok⟩
theorem Run.rangeNew (w : World) (p : Run) (t : TypeId) : (w.alloc (.cells #[.int .i64 p.runner, .bool p.started, .bool p.out, .int .i64 p.card.k.number, .int .i64 p.card.k.start, .int .i64 p.card.k.finish, .slice p.card.a p.card.n p.card.c] t)).rangeAt w.heap.size 0 p.lst := rangeAt_new w p.lst t
theorem Run.cells {w : World} {b off : Nat} {p : Run} (h : w.rangeAt b off p.lst) : w.cell? ⟨b, off, none⟩ = some (.int .i64 p.runner) ∧ w.cell? ⟨b, off + 1, none⟩ = some (.bool p.started) ∧ w.cell? ⟨b, off + 2, none⟩ = some (.bool p.out) ∧ w.cell? ⟨b, off + 3, none⟩ = some (.int .i64 p.card.k.number) ∧ w.cell? ⟨b, off + 4, none⟩ = some (.int .i64 p.card.k.start) ∧ w.cell? ⟨b, off + 5, none⟩ = some (.int .i64 p.card.k.finish) ∧ w.cell? ⟨b, off + 6, none⟩ = some (.slice p.card.a p.card.n p.card.c) :=
  ⟨h 0 _ rfl, h 1 _ rfl, h 2 _ rfl, h 3 _ rfl, h 4 _ rfl, h 5 _ rfl, h 6 _ rfl⟩
theorem Run.cellsNew (w : World) (p : Run) (t : TypeId) : ∀ s : After (w.alloc (.cells #[.int .i64 p.runner, .bool p.started, .bool p.out, .int .i64 p.card.k.number, .int .i64 p.card.k.start, .int .i64 p.card.k.finish, .slice p.card.a p.card.n p.card.c] t)), s.w'.cell? ⟨w.heap.size, 0, none⟩ = some (.int .i64 p.runner) ∧ s.w'.cell? ⟨w.heap.size, 1, none⟩ = some (.bool p.started) ∧ s.w'.cell? ⟨w.heap.size, 2, none⟩ = some (.bool p.out) ∧ s.w'.cell? ⟨w.heap.size, 3, none⟩ = some (.int .i64 p.card.k.number) ∧ s.w'.cell? ⟨w.heap.size, 4, none⟩ = some (.int .i64 p.card.k.start) ∧ s.w'.cell? ⟨w.heap.size, 5, none⟩ = some (.int .i64 p.card.k.finish) ∧ s.w'.cell? ⟨w.heap.size, 6, none⟩ = some (.slice p.card.a p.card.n p.card.c) := by
  intro s
  obtain ⟨h0, h1, h2, h3, h4, h5, h6⟩ := Run.cells (rangeAt_below (Run.rangeNew w p t) s.hb)
  simp only [Nat.zero_add] at h1 h2 h3 h4 h5 h6
  exact ⟨h0, h1, h2, h3, h4, h5, h6⟩
theorem Run.cellsOld {w : World} {b off : Nat} {p : Run} (h : w.rangeAt b off p.lst) : ∀ s : After w, s.w'.cell? ⟨b, off, none⟩ = some (.int .i64 p.runner) ∧ s.w'.cell? ⟨b, off + 1, none⟩ = some (.bool p.started) ∧ s.w'.cell? ⟨b, off + 2, none⟩ = some (.bool p.out) ∧ s.w'.cell? ⟨b, off + 3, none⟩ = some (.int .i64 p.card.k.number) ∧ s.w'.cell? ⟨b, off + 4, none⟩ = some (.int .i64 p.card.k.start) ∧ s.w'.cell? ⟨b, off + 5, none⟩ = some (.int .i64 p.card.k.finish) ∧ s.w'.cell? ⟨b, off + 6, none⟩ = some (.slice p.card.a p.card.n p.card.c) :=
  fun s => Run.cells (rangeAt_below h s.hb)
theorem Run.cardRange {w : World} {b off : Nat} {p : Run} (h : w.rangeAt b off p.lst) : w.rangeAt b (off + 3) p.card.lst := by
  intro j u hu
  have hj : j < 4 := (List.getElem?_eq_some_iff.1 hu).1
  have := h (3 + j) u (by
    match j, hj with
    | 0, _ => exact hu
    | 1, _ => exact hu
    | 2, _ => exact hu
    | 3, _ => exact hu)
  rwa [← Nat.add_assoc] at this
theorem stRunLaws : St Try.prog 64 7 := ⟨⟨_, Try.underlying64⟩, by kernel_rfl⟩
theorem Run.loadLaws {w : World} {ops : Array Oper} {rest : List Oper} {o : Oper} {a : Act} {Q : Exit → Act → World → Prop} (hgd : o.guard = none) (x : Operand) (ho : o.op = .load 64 x) (b off : Nat) (hx : a.eval x = .pointer (some ⟨b, off, none⟩)) (p : Run) (hc : w.rangeAt b off p.lst)
    (h : wpList Try.prog ops Q rest (a.put o.dst (.agg #[.int .i64 p.runner, .bool p.started, .bool p.out, .int .i64 p.card.k.number, .int .i64 p.card.k.start, .int .i64 p.card.k.finish, .slice p.card.a p.card.n p.card.c])) w) : wpList Try.prog ops Q (o :: rest) a w := stRunLaws.load hgd x ho b off hx p.lst rfl hc h
theorem stRunImpl : St Try.prog 53 7 := ⟨⟨_, Try.underlying53⟩, by kernel_rfl⟩
theorem Run.loadImpl {w : World} {ops : Array Oper} {rest : List Oper} {o : Oper} {a : Act} {Q : Exit → Act → World → Prop} (hgd : o.guard = none) (x : Operand) (ho : o.op = .load 53 x) (b off : Nat) (hx : a.eval x = .pointer (some ⟨b, off, none⟩)) (p : Run) (hc : w.rangeAt b off p.lst)
    (h : wpList Try.prog ops Q rest (a.put o.dst (.agg #[.int .i64 p.runner, .bool p.started, .bool p.out, .int .i64 p.card.k.number, .int .i64 p.card.k.start, .int .i64 p.card.k.finish, .slice p.card.a p.card.n p.card.c])) w) : wpList Try.prog ops Q (o :: rest) a w := stRunImpl.load hgd x ho b off hx p.lst rfl hc h
theorem Run.qloadImpl {w : World} {ops : Array Oper} {rest : List Oper} {o : Oper} {a : Act} {Q : Act → Prop} (hw : Region.wanted o (yielded ops a.tmps) = true) (x : Operand) (ho : o.op = .load 53 x) (b off : Nat) (hx : a.eval x = .pointer (some ⟨b, off, none⟩)) (p : Run) (hc : w.rangeAt b off p.lst)
    (h : wpQuiet Try.prog ops (Cl w) Q rest (a.put o.dst (.agg #[.int .i64 p.runner, .bool p.started, .bool p.out, .int .i64 p.card.k.number, .int .i64 p.card.k.start, .int .i64 p.card.k.finish, .slice p.card.a p.card.n p.card.c]))) : wpQuiet Try.prog ops (Cl w) Q (o :: rest) a := stRunImpl.qload hw x ho b off hx p.lst rfl hc h
theorem tyRun : Ty Try.prog 25 53 (.agg runZ.toArray) runZ 7 64 := ⟨Try.underlying25, by kernel_rfl, rfl, rfl, by decide, by decide⟩
theorem fitRun : ∃ fs fc fp, Fit Try.prog (.str fs (runSh fc fp)) (.inl 64) := by
  obtain ⟨fc, fp, hc⟩ := fitCard
  exact ⟨_, fc, fp, Try.underlying64, by kernel_rfl, ⟨_, _, rfl, rfl, rfl, by kernel_rfl, Try.underlying3, ⟨_, _, rfl, rfl, rfl, by kernel_rfl, Try.underlying4, ⟨_, _, rfl, rfl, rfl, by kernel_rfl, Try.underlying4, ⟨_, _, rfl, rfl, rfl, by kernel_rfl, hc, rfl⟩⟩⟩⟩⟩
theorem fitRunS : ∃ fs fc fp, Fit Try.prog (.sl 64 (.str fs (runSh fc fp))) (.inl 22) := by
  obtain ⟨fs, fc, fp, h⟩ := fitRun
  exact ⟨fs, fc, fp, Try.underlying22, by kernel_rfl, by show 0 < (runSh fc fp).size; simp [runSh, cardSh, Sh.size], h⟩
/-- A raw slice argument of them. -/
theorem runS_of_holds {e : TypeId} {fs fc fp : Array Field} {w : World} {v : Value} (h : Holds w (.sl e (.str fs (runSh fc fp))) [v]) : ∃ xs : List Run, RunS w v xs ∧ ∀ p ∈ xs, p.k.ok := by
  obtain ⟨xs, hs, ho⟩ := flat_of_holds (sh := .str fs (runSh fc fp)) (enc := Run.lst) (ok := fun p => p.card.In w ∧ p.k.ok) (fun cs h => run_of_holds h) h
  exact ⟨xs, ⟨hs, fun p hp => (ho p hp).1⟩, fun p hp => (ho p hp).2⟩

set_option maxHeartbeats 1000000 in
theorem szRun_any (p : Run) (left : Int) (w : World) (h : p.card.In w) (hl : 0 ≤ left) (hl2 : left ≤ 1048576) :
    Calls Try.prog 51 #[p.val, .int .i64 left] w fun e w' => e = .returned (.int .i64 (szLeft left p.card.k.punches.length)) ∧ Below w.heap.size w w' := by
  obtain ⟨h0, h1, h2, ⟨⟨r0, r1, r2, sp⟩, A, n, c⟩⟩ := p
  have hW : Below w.heap.size w (w.alloc (.cells #[.int .i64 h0, .bool h1, .bool h2, .int .i64 r0, .int .i64 r1, .int .i64 r2, .slice A n c] 64)) := by (repeat (first | exact Below.refl _ _ | assumption | refine Below.drew ?_ | refine Below.alloc ?_ (by first | exact Nat.le_refl _ | (simp; done) | (simp; omega)) _))
  have hr := Run.cardRange (Run.rangeNew w ⟨h0, h1, h2, ⟨⟨r0, r1, r2, sp⟩, A, n, c⟩⟩ 64)
  simp only [Nat.zero_add] at hr
  obtain ⟨q, hq⟩ : ∃ q, szLeft left sp.length = q := ⟨_, rfl⟩
  have hsz := szCard_any ⟨⟨r0, r1, r2, sp⟩, A, n, c⟩ left _ (Card.In.below h hW) hl hl2
  try simp only at hq
  simp only [hq] at hsz
  show Calls Try.prog 51 #[.agg #[.int .i64 h0, .bool h1, .bool h2, .int .i64 r0, .int .i64 r1, .int .i64 r2, .slice A n c], .int .i64 left] w fun e w' => e = .returned (.int .i64 (szLeft left sp.length)) ∧ Below w.heap.size w w'
  rw [hq]
  have hq1 : -1 ≤ q := by rw [← hq]; unfold szLeft; split <;> omega
  clear hq h
  go_enter Try.func51, Try.ntmps51
  go_wp2_with (first
    | ((with_reducible refine at_load_ 62 ?_); refine Card.loadLaws rfl _ rfl w.heap.size 3 rfl ⟨⟨r0, r1, r2, sp⟩, A, n, c⟩ hr ?_)
    | (go_at_call 91; refine hsz.mono ?_; rintro e w1 ⟨rfl, hb1⟩))
  all_goals go_ret
  · refine ⟨ret_int (by omega), step_ hW (Nat.le_refl _) hb1⟩
  · refine ⟨rfl, step_ hW (Nat.le_refl _) hb1⟩

set_option maxHeartbeats 1000000 in
/-- The size: where it fits, every length is small. -/
theorem szRunS_any (xs : List Run) (v : Value) (left : Int) (w : World) (h : RunS w v xs) (hl : 0 ≤ left) (hl2 : left ≤ 1048576) :
    Calls Try.prog 14 #[v, .int .i64 left] w fun e w' => ∃ q : Int, e = .returned (.int .i64 q) ∧ Hid (0 ≤ q → xs.length ≤ 1048576 ∧ ∀ p ∈ xs, p.card.k.punches.length ≤ 1048576) ∧ q ≤ 1048576 ∧ Below w.heap.size w w' := by
  have HI := Lib.hid h.2
  obtain ⟨A, c, rfl, hc, hm, hk⟩ := h.1.open_
  clear h
  by_cases hbig : left < xs.length
  · have hx : (left : Int) - (xs.length : Int) < 0 := by omega
    go_enter Try.func14, Try.ntmps14
    go_wp2
    go_ret
    exact ⟨-1, rfl, fun h => absurd h (by omega), by omega, Below.refl _ _⟩
  have hx : ¬ (left : Int) - (xs.length : Int) < 0 := by omega
  go_enter Try.func14, Try.ntmps14
  go_wp2
  go_loopw [1, 5] (fun l i wr => ∃ (k : Nat) (q : Int), k ≤ xs.length ∧ i = .int .i64 k ∧ l = .int .i64 q ∧ 0 ≤ q ∧ q ≤ 1048576 ∧ Hid (∀ j (h : j < xs.length), j < k → xs[j].card.k.punches.length ≤ 1048576) ∧ Below w.heap.size w wr)
    (fun _ i _ => xs.length - (intOf i).toNat)
  case atStart => exact ⟨0, left - xs.length, Nat.zero_le _, rfl, rfl, by omega, by omega, fun j h hj => absurd hj (by omega), Below.refl _ _⟩
  case round =>
    obtain ⟨k, q, hkl, rfl, rfl, hq0, hq1, HS, hb⟩ := hrel
    by_cases hlt : k < xs.length
    · obtain ⟨b, off, rfl, hat⟩ := flat_at hk (by omega)
      have hr := rangeAt_below (hat k hlt) hb
      have hin := (HI.out _ (List.getElem_mem hlt)).below hb
      have hcall := szRun_any xs[k] q wr hin hq0 hq1
      obtain ⟨r, hr1⟩ : ∃ r, szLeft q xs[k].card.k.punches.length = r := ⟨_, rfl⟩
      rw [hr1] at hcall
      have HR := Lib.hid hr1
      clear hat hk hin hr1
      go_wp2_with (first
        | ((with_reducible refine at_load_ 64 ?_); refine Run.loadLaws rfl _ rfl b (off + k * 7) rfl xs[k] hr ?_)
        | (go_at_call 51; refine hcall.mono ?_; rintro e w2 ⟨rfl, hb2⟩))
      all_goals have hB := step_ hb (Nat.le_refl _) hb2
      · go_ret
        exact ⟨-1, rfl, fun h => absurd h (by omega), by omega, hB⟩
      · have hr0 : 0 ≤ r := by omega
        have hrq : r = q - xs[k].card.k.punches.length ∧ (xs[k].card.k.punches.length : Int) ≤ q := by
          have := HR.out
          unfold szLeft at this
          split at this <;> omega
        go_roundw
        case rel => exact ⟨k + 1, r, by omega, by go_num, rfl, hr0, by omega, fun j h hj => by
          by_cases e : j < k
          · exact HS.out j h e
          · obtain rfl : j = k := by omega
            omega, hB⟩
        case measure => simp [intOf]; omega
    · go_wp2
      go_ret
      obtain rfl : k = xs.length := by omega
      exact ⟨q, rfl, fun _ => ⟨by omega, fun p hp => by
        obtain ⟨j, hj, rfl⟩ := List.getElem_of_mem hp
        exact HS.out j hj hj⟩, by omega, hb⟩


set_option maxHeartbeats 2000000 in
theorem toRun_any (p : Run) (w : World) (h : p.card.In w) (hn : p.card.k.punches.length ≤ 1048576) :
    Calls Try.prog 53 #[p.val] w fun e w' => ∃ p' : Run, e = .returned p'.val ∧ p'.k = p.k ∧ Row (w.heap.size + 1) 77 2 w' p'.card.sv (p'.card.k.punches.map Punch.lst) ∧ Below w.heap.size w w' := by
  obtain ⟨h0, h1, h2, ⟨⟨r0, r1, r2, sp⟩, A, n, c⟩⟩ := p
  show Calls Try.prog 53 #[.agg #[.int .i64 h0, .bool h1, .bool h2, .int .i64 r0, .int .i64 r1, .int .i64 r2, .slice A n c]] w _
  simp only at hn h
  go_enter Try.func53, Try.ntmps53
  have hr := Run.cardRange (Run.rangeNew w ⟨h0, h1, h2, ⟨⟨r0, r1, r2, sp⟩, A, n, c⟩⟩ 64)
  have hr2 := rangeAt_below (rangeAt_below hr (below_alloc (Below.refl _ _) (.cells #[.int .i64 0, .bool false, .bool false, .int .i64 0, .int .i64 0, .int .i64 0, .slice none 0 0] 53))) (below_alloc (Below.refl _ _) (.cells #[.int .i64 h0, .bool h1, .bool h2, .int .i64 0, .int .i64 0, .int .i64 0, .slice none 0 0] 53))
  simp only [Nat.zero_add] at hr2
  clear hr
  go_wp2_with ((with_reducible refine at_load_ 62 ?_); refine Card.loadLaws rfl _ rfl w.heap.size 3 rfl ⟨⟨r0, r1, r2, sp⟩, A, n, c⟩ hr2 ?_)
  have hW : Below w.heap.size w (((w.alloc (.cells #[.int .i64 h0, .bool h1, .bool h2, .int .i64 r0, .int .i64 r1, .int .i64 r2, .slice A n c] 64)).alloc (.cells #[.int .i64 0, .bool false, .bool false, .int .i64 0, .int .i64 0, .int .i64 0, .slice none 0 0] 53)).alloc (.cells #[.int .i64 h0, .bool h1, .bool h2, .int .i64 0, .int .i64 0, .int .i64 0, .slice none 0 0] 53)) := by (repeat (first | exact Below.refl _ _ | assumption | refine Below.drew ?_ | refine Below.alloc ?_ (by first | exact Nat.le_refl _ | (simp; done) | (simp; omega)) _))
  have hl1 : LitAt (((w.alloc (.cells #[.int .i64 h0, .bool h1, .bool h2, .int .i64 r0, .int .i64 r1, .int .i64 r2, .slice A n c] 64)).alloc (.cells #[.int .i64 0, .bool false, .bool false, .int .i64 0, .int .i64 0, .int .i64 0, .slice none 0 0] 53)).alloc (.cells #[.int .i64 h0, .bool h1, .bool h2, .int .i64 0, .int .i64 0, .int .i64 0, .slice none 0 0] 53)) (w.heap.size + 1) 53 runZ := LitAt.alloc (LitAt.new _ _ _ _ (by simp)) _
  have hl2 : LitAt (((w.alloc (.cells #[.int .i64 h0, .bool h1, .bool h2, .int .i64 r0, .int .i64 r1, .int .i64 r2, .slice A n c] 64)).alloc (.cells #[.int .i64 0, .bool false, .bool false, .int .i64 0, .int .i64 0, .int .i64 0, .slice none 0 0] 53)).alloc (.cells #[.int .i64 h0, .bool h1, .bool h2, .int .i64 0, .int .i64 0, .int .i64 0, .slice none 0 0] 53)) (w.heap.size + 1 + 1) 53 [.int .i64 h0, .bool h1, .bool h2, .int .i64 0, .int .i64 0, .int .i64 0, .slice none 0 0] := LitAt.new _ _ _ _ (by simp)
  have hsz : (((w.alloc (.cells #[.int .i64 h0, .bool h1, .bool h2, .int .i64 r0, .int .i64 r1, .int .i64 r2, .slice A n c] 64)).alloc (.cells #[.int .i64 0, .bool false, .bool false, .int .i64 0, .int .i64 0, .int .i64 0, .slice none 0 0] 53)).alloc (.cells #[.int .i64 h0, .bool h1, .bool h2, .int .i64 0, .int .i64 0, .int .i64 0, .slice none 0 0] 53)).heap.size = w.heap.size + 3 := by simp
  clear hr2
  generalize (((w.alloc (.cells #[.int .i64 h0, .bool h1, .bool h2, .int .i64 r0, .int .i64 r1, .int .i64 r2, .slice A n c] 64)).alloc (.cells #[.int .i64 0, .bool false, .bool false, .int .i64 0, .int .i64 0, .int .i64 0, .slice none 0 0] 53)).alloc (.cells #[.int .i64 h0, .bool h1, .bool h2, .int .i64 0, .int .i64 0, .int .i64 0, .slice none 0 0] 53)) = W at hW hl1 hl2 hsz ⊢
  refine (toCard_any ⟨⟨r0, r1, r2, sp⟩, A, n, c⟩ W (Card.In.below h hW) hn).mono ?_
  rintro e w1 ⟨⟨k', A', n', c'⟩, he, hk', row, hb1⟩
  simp only at hk'
  subst hk'
  obtain rfl : e = .returned (.agg #[.int .i64 r0, .int .i64 r1, .int .i64 r2, .slice A' n' c']) := he
  have row : Row (W.heap.size + 1) 77 2 w1 (.slice A' n' c') (sp.map Punch.lst) := row
  have hB1 := step_ hW (Nat.le_refl _) hb1
  have hm1 := hl1.below hb1
  have hm2 := hl2.below hb1
  have hc10 := hm1.range 0 _ rfl
  have hc11 := hm1.range 1 _ rfl
  have hc12 := hm1.range 2 _ rfl
  have hc13 := hm1.range 3 _ rfl
  have hc14 := hm1.range 4 _ rfl
  have hc15 := hm1.range 5 _ rfl
  have hc16 := hm1.range 6 _ rfl
  have hc20 := hm2.range 0 _ rfl
  have hc21 := hm2.range 1 _ rfl
  have hc22 := hm2.range 2 _ rfl
  have hc23 := hm2.range 3 _ rfl
  have hc24 := hm2.range 4 _ rfl
  have hc25 := hm2.range 5 _ rfl
  have hc26 := hm2.range 6 _ rfl
  have hf1 := hm1.frozen
  have hf2 := hm2.frozen
  simp only [Nat.zero_add] at hc10 hc11 hc12 hc13 hc14 hc15 hc16 hc20 hc21 hc22 hc23 hc24 hc25 hc26
  have hnl : n' = sp.length := by have := row.none_len; simpa using this
  subst hnl
  have ROW := Lib.hid row
  have HSZ := Lib.hid hsz
  have HB1 := Lib.hid hB1
  clear h hn row hsz hB1 hm1 hm2 hl1 hl2 hW
  go_wp2
  have hn1 : ∀ q, (Value.slice A' sp.length c').ownBlock = some q → w.heap.size + 3 ≤ q := fun q hq => by have := (ROW.out.lt q hq).1; have := HSZ.out; omega
  refine bodyPost_ret (v := .agg #[.int .i64 h0, .bool h1, .bool h2, .int .i64 r0, .int .i64 r1, .int .i64 r2, .slice A' sp.length c']) (by simp [results, Try.results53, go_sem, hc10, hc11, hc12, hc13, hc14, hc15, hc16]) rfl ⟨⟨h0, h1, h2, ⟨⟨r0, r1, r2, sp⟩, A', sp.length, c'⟩⟩, rfl, rfl, ?_, ?_⟩
  · refine ⟨ROW.out.1, ?_⟩
    have h0 := (ROW.out.mono (base' := w.heap.size + 1) (by have := HSZ.out; omega)).2
    repeat (first | (with_reducible exact h0) | (with_reducible refine ownsRow_setCell_other ?_ (fun e => by have := hn1 _ e; simp only at this; omega) _))
  · repeat (first | (with_reducible exact HB1.out) | (with_reducible refine Below.setCell ?_ (by simp <;> omega) _))

/-- Two whose punches lie apart. -/
def Run.Ap (p q : Run) : Prop := p.card.sv.ownBlock = none ∨ p.card.sv.ownBlock ≠ q.card.sv.ownBlock
/-- Those of the call's own, the outer row and the inner ones all apart. -/
def RunR (base : Nat) (w : World) (v : Value) (zs : List Run) : Prop :=
  Row base 53 7 w v (zs.map Run.lst) ∧ (∀ z ∈ zs, Row base 77 2 w z.card.sv (z.card.k.punches.map Punch.lst) ∧ (z.card.sv.ownBlock = none ∨ z.card.sv.ownBlock ≠ v.ownBlock)) ∧ zs.Pairwise Run.Ap
theorem RunR.below {base : Nat} {w w' : World} {v : Value} {zs : List Run} (h : RunR base w v zs) (hb : Below w.heap.size w w') : RunR base w' v zs :=
  ⟨h.1.below hb, fun z hz => ⟨(h.2.1 z hz).1.below hb, (h.2.1 z hz).2⟩, h.2.2⟩
theorem RunR.mono {base base' : Nat} {w : World} {v : Value} {zs : List Run} (h : RunR base w v zs) (hb : base' ≤ base) : RunR base' w v zs :=
  ⟨h.1.mono hb, fun z hz => ⟨(h.2.1 z hz).1.mono hb, (h.2.1 z hz).2⟩, h.2.2⟩
theorem RunR.s {base : Nat} {w : World} {v : Value} {zs : List Run} (h : RunR base w v zs) : RunS w v zs :=
  ⟨Sl.of_flat h.1, fun z hz => Sl.of_flat (h.2.1 z hz).1⟩
theorem RunR.nil {w : World} {base : Nat} : RunR base w (.slice none 0 0) [] := ⟨Row.nil _ _ _ _, fun z hz => absurd hz (by simp), List.Pairwise.nil⟩

set_option maxHeartbeats 2000000 in
theorem toRunS_any (xs : List Run) (v : Value) (w : World) (h : RunS w v xs) (hn : xs.length ≤ 1048576) (hsp : ∀ p ∈ xs, p.card.k.punches.length ≤ 1048576) :
    Calls Try.prog 16 #[v] w fun e w' => ∃ v' zs, e = .returned v' ∧ zs.map Run.k = xs.map Run.k ∧ RunR w.heap.size w' v' zs ∧ Below w.heap.size w w' := by
  have HI := Lib.hid h.2
  have HSP := Lib.hid hsp
  obtain ⟨A, c, rfl, hc, hm, hk⟩ := h.1.open_
  clear h hsp
  go_enter Try.func16, Try.ntmps16
  go_wp2_with (at_make; refine tyRun.make rfl _ _ rfl w.heap.size xs.length _ _ rfl rfl rfl rfl (by omega) (Nat.le_refl _) ?_; intro w1 hrow1 hb1 hz1)
  go_loopw [4] (fun i wr => ∃ (k : Nat) (zs : List Run), k ≤ xs.length ∧ zs.length = k ∧ i = .int .i64 k ∧ Hid (zs.map Run.k = (xs.take k).map Run.k) ∧ Row w.heap.size 53 7 wr (.slice (some ⟨w.heap.size, 0, none⟩) xs.length xs.length) (zs.map Run.lst ++ List.replicate (xs.length - k) runZ) ∧ Hid (∀ z ∈ zs, Row (w.heap.size + 1) 77 2 wr z.card.sv (z.card.k.punches.map Punch.lst)) ∧ Hid (zs.Pairwise Run.Ap) ∧ Below w.heap.size w wr ∧ w.heap.size < wr.heap.size)
    (fun i _ => xs.length - (intOf i).toNat)
  case atStart => exact ⟨0, [], Nat.zero_le _, rfl, rfl, rfl, by simpa using hrow1, fun z hz => absurd hz (by simp), List.Pairwise.nil, hb1, hz1⟩
  case round =>
    obtain ⟨k, zs, hkl, hzl, rfl, HK, hrow, HR, HP, hb, hz⟩ := hrel
    have HZL := Lib.hid hzl
    clear hzl
    by_cases hlt : k < xs.length
    · obtain ⟨b, off, rfl, hat⟩ := flat_at hk (by omega)
      have hr := rangeAt_below (hat k hlt) hb
      have hmem := List.getElem_mem hlt
      have hcall := toRun_any xs[k] wr ((HI.out _ hmem).below hb) (HSP.out _ hmem)
      have hkm : k < (zs.map Run.lst ++ List.replicate (xs.length - k) runZ).length := by simp; rw [HZL.out]; omega
      have HSET := Lib.hid (show ∀ p' : Run, (zs.map Run.lst ++ List.replicate (xs.length - k) runZ).set k p'.lst = (zs ++ [p']).map Run.lst ++ List.replicate (xs.length - (k + 1)) runZ by
        intro p'
        have e : xs.length - k = (xs.length - (k + 1)) + 1 := by omega
        rw [List.set_append_right _ _ (by simp; rw [HZL.out]; exact Nat.le_refl _), e, List.replicate_succ]
        have e2 : k - (zs.map Run.lst).length = 0 := by simp; rw [HZL.out]; omega
        rw [e2]; simp)
      clear hat hk
      go_wp2_with (first
        | ((with_reducible refine at_load_ 64 ?_); refine Run.loadLaws rfl _ rfl b (off + k * 7) rfl xs[k] hr ?_)
        | (go_at_call 53; refine hcall.mono ?_; rintro e w2 ⟨p', rfl, hpk, hprow, hb2⟩; have hrow2 := hrow.below hb2)
        | (refine tyRun.store rfl _ _ rfl w.heap.size w.heap.size xs.length xs.length k _ _ p'.lst hrow2 hkm rfl rfl rfl rfl p'.one ?_; intro w3 hrow3 hg3))
      have hlen2 := hb2.size
      have hne : ∀ q, p'.card.sv.ownBlock = some q → wr.heap.size + 1 ≤ q := fun q hq => (hprow.lt q hq).1
      have hB3 := (hb.trans (hb2.mono hb.size)).grown hg3 (Nat.le_trans hb.size hb2.size) (by simp)
      have hz3 : w.heap.size < w3.heap.size := Nat.lt_of_lt_of_le hz (Nat.le_trans hb2.size hg3.size)
      have HKK := Lib.hid hpk
      rw [HSET.out] at hrow3
      go_roundw
      case rel => exact ⟨k + 1, zs ++ [p'], by omega, by simp; exact HZL.out, by go_num, by
        show _ = _
        rw [List.take_succ_eq_append_getElem hlt, List.map_append, List.map_append, HK.out]
        simp [HKK.out], hrow3, by
        intro z hz'
        rcases List.mem_append.1 hz' with hz' | hz'
        · have h1 := (HR.out z hz').below hb2
          exact Row.kept h1 hg3 (.inr (fun e => by have := (h1.lt _ e).1; omega))
        · rw [List.mem_singleton.1 hz']
          have h1 := hprow.mono (base' := w.heap.size + 1) (by omega)
          exact Row.kept h1 hg3 (.inr (fun e => by have := (h1.lt _ e).1; omega)), by
        refine List.pairwise_append.2 ⟨HP.out, by simp, fun z hz' q hq => ?_⟩
        rw [List.mem_singleton.1 hq]
        refine (Classical.em (z.card.sv.ownBlock = none)).elim .inl fun hnn => .inr fun e => ?_
        obtain ⟨g, hg⟩ := Option.ne_none_iff_exists'.1 hnn
        have h1 := ((HR.out z hz').lt g hg).2
        have h2 := hne g (e ▸ hg)
        omega, hB3, hz3⟩
      case measure => simp [intOf]; omega
    · go_wp2
      go_ret
      obtain rfl : k = xs.length := by omega
      have e0 : xs.length - xs.length = 0 := by omega
      rw [e0, List.replicate_zero, List.append_nil] at hrow
      refine ⟨_, zs, rfl, by rw [HK.out, List.take_length], ⟨hrow, fun z hz' => ⟨Row.mono (HR.out z hz') (by omega), .inr (fun e => by have := ((HR.out z hz').lt _ e).1; simp only at this; omega)⟩, HP.out⟩, hb⟩


set_option maxHeartbeats 2000000 in
theorem eqRun_refl (p q : Run) (w : World) (hk : p.k = q.k) (hp : p.card.In w) (hq : q.card.In w) :
    Calls Try.prog 55 #[p.val, q.val] w fun e w' => e = .returned (.bool true) ∧ Below w.heap.size w w' := by
  obtain ⟨h0, h1, h2, ⟨⟨r0, r1, r2, sp⟩, A, n, c⟩⟩ := p
  obtain ⟨h0', h1', h2', ⟨⟨r0', r1', r2', sp'⟩, A', n', c'⟩⟩ := q
  simp only [Run.k, RunK.mk.injEq, CdK.mk.injEq] at hk
  obtain ⟨rfl, rfl, rfl, rfl, rfl, rfl, rfl⟩ := hk
  show Calls Try.prog 55 #[.agg #[.int .i64 h0, .bool h1, .bool h2, .int .i64 r0, .int .i64 r1, .int .i64 r2, .slice A n c], .agg #[.int .i64 h0, .bool h1, .bool h2, .int .i64 r0, .int .i64 r1, .int .i64 r2, .slice A' n' c']] w _
  have hW1 : Below w.heap.size w (w.alloc (.cells #[.int .i64 h0, .bool h1, .bool h2, .int .i64 r0, .int .i64 r1, .int .i64 r2, .slice A n c] 53)) := below_alloc (Below.refl _ _) _
  have hW : Below w.heap.size w ((w.alloc (.cells #[.int .i64 h0, .bool h1, .bool h2, .int .i64 r0, .int .i64 r1, .int .i64 r2, .slice A n c] 53)).alloc (.cells #[.int .i64 h0, .bool h1, .bool h2, .int .i64 r0, .int .i64 r1, .int .i64 r2, .slice A' n' c'] 53)) := below_alloc hW1 _
  have HC := Lib.hid (fun (s : After ((w.alloc (.cells #[.int .i64 h0, .bool h1, .bool h2, .int .i64 r0, .int .i64 r1, .int .i64 r2, .slice A n c] 53)).alloc (.cells #[.int .i64 h0, .bool h1, .bool h2, .int .i64 r0, .int .i64 r1, .int .i64 r2, .slice A' n' c'] 53))) => eqCard_refl ⟨⟨r0, r1, r2, sp⟩, A, n, c⟩ ⟨⟨r0, r1, r2, sp⟩, A', n', c'⟩ s.w' rfl (Card.In.below (Card.In.below hp hW) s.hb) (Card.In.below (Card.In.below hq hW) s.hb))
  have hr1 := rangeAt_below (Run.cardRange (Run.rangeNew w ⟨h0, h1, h2, ⟨⟨r0, r1, r2, sp⟩, A, n, c⟩⟩ 53)) (below_alloc (Below.refl _ _) (.cells #[.int .i64 h0, .bool h1, .bool h2, .int .i64 r0, .int .i64 r1, .int .i64 r2, .slice A' n' c'] 53))
  have hr2 := Run.cardRange (Run.rangeNew (w.alloc (.cells #[.int .i64 h0, .bool h1, .bool h2, .int .i64 r0, .int .i64 r1, .int .i64 r2, .slice A n c] 53)) ⟨h0, h1, h2, ⟨⟨r0, r1, r2, sp⟩, A', n', c'⟩⟩ 53)
  have hs1 : (w.alloc (.cells #[.int .i64 h0, .bool h1, .bool h2, .int .i64 r0, .int .i64 r1, .int .i64 r2, .slice A n c] 53)).heap.size = w.heap.size + 1 := by simp
  rw [hs1] at hr2
  simp only [Nat.zero_add] at hr1 hr2
  have HW := Lib.hid hW
  clear hp hq hs1 hW hW1
  go_enter Try.func55, Try.ntmps55
  go_wp2_with (first
    | ((with_reducible refine at_load_ 51 ?_); refine Card.loadImpl rfl _ rfl w.heap.size 3 rfl ⟨⟨r0, r1, r2, sp⟩, A, n, c⟩ hr1 ?_)
    | ((with_reducible refine at_load_ 51 ?_); refine Card.loadImpl rfl _ rfl (w.heap.size + 1) 3 rfl ⟨⟨r0, r1, r2, sp⟩, A', n', c'⟩ hr2 ?_)
    | (go_at_call 97; refine (HC.out ⟨_, Below.refl _ _⟩).mono ?_; rintro e w3 ⟨rfl, hb3⟩))
  go_ret
  exact ⟨rfl, step_ HW.out (Nat.le_refl _) hb3⟩

set_option maxHeartbeats 1000000 in
theorem eqRunS_refl (ps qs : List Run) (v v' : Value) (w : World) (h : RunS w v ps) (h' : RunS w v' qs) (hkk : ps.map Run.k = qs.map Run.k) :
    Calls Try.prog 18 #[v, v'] w fun e w' => e = .returned (.bool true) ∧ Below w.heap.size w w' := by
  have hl : ps.length = qs.length := by have := congrArg List.length hkk; simpa using this
  have HKE := Lib.hid (show ∀ k (h1 : k < ps.length) (h2 : k < qs.length), ps[k].k = qs[k].k by
    intro k h1 h2
    have : (ps.map Run.k)[k]? = (qs.map Run.k)[k]? := by rw [hkk]
    simpa [h1, h2] using this)
  have HI := Lib.hid h.2
  have HI' := Lib.hid h'.2
  obtain ⟨A, c, rfl, hc, hm, hk⟩ := h.1.open_
  obtain ⟨A', c', rfl, hc', hm', hk'⟩ := h'.1.open_
  have HL := Lib.hid hl
  obtain ⟨n, hn⟩ : ∃ n, qs.length = n := ⟨_, rfl⟩
  have HN := Lib.hid hn
  have hpn : ps.length = n := by rw [hl, hn]
  rw [hn] at hc'
  rw [hpn] at hc
  clear h h' hkk hl
  rw [hn, hpn]
  have HP := Lib.hid hpn
  clear hn hpn
  go_enter Try.func18, Try.ntmps18
  go_wp2
  go_loopw [5] (fun i wr => ∃ k : Nat, k ≤ n ∧ i = .int .i64 k ∧ Below w.heap.size w wr)
    (fun i _ => n - (intOf i).toNat)
  case atStart => exact ⟨0, Nat.zero_le _, rfl, Below.refl _ _⟩
  case round =>
    obtain ⟨k, hkl, rfl, hb⟩ := hrel
    by_cases hlt : k < n
    · have hlp : k < ps.length := by rw [HP.out]; exact hlt
      have hlq : k < qs.length := by rw [HN.out]; exact hlt
      obtain ⟨b, off, rfl, hat⟩ := flat_at hk (by omega)
      obtain ⟨b', off', rfl, hat'⟩ := flat_at hk' (by omega)
      have hr := rangeAt_below (hat k hlp) hb
      have hr' := rangeAt_below (hat' k hlq) hb
      have HC := Lib.hid (fun (s : After wr) => eqRun_refl ps[k] qs[k] s.w' (HKE.out k hlp hlq) (((HI.out _ (List.getElem_mem hlp)).below hb).below s.hb) (((HI'.out _ (List.getElem_mem hlq)).below hb).below s.hb))
      clear hat hat' hk hk'
      go_wp2
      refine region_after (by kernel_rfl) (by kernel_rfl) ?_
      repeat (any_goals (first | go_big_quiet_step (((go_at_call 55; exact Calls.after (v := .bool true) _ (HC.out _)))) | (refine Run.qloadImpl rfl _ rfl b (off + k * 7) rfl ps[k] hr ?_) | (refine Run.qloadImpl rfl _ rfl b' (off' + k * 7) rfl qs[k] hr' ?_) | quiet_step (((go_at_call 55; exact Calls.after (v := .bool true) _ (HC.out _)))) | (refine wpQuiet_step (fun K hK => ?_); go_simp; split <;> (refine hK _ ?_; clear hK K))))
      all_goals (refine wpQuiet_nil ?_; intro s)
      go_wp2
      go_roundw
      case rel => exact ⟨k + 1, by omega, by go_num, step_ hb (Nat.le_refl _) s.hb⟩
      case measure => simp [intOf]; omega
    · go_wp2
      go_ret
      exact ⟨rfl, hb⟩


end Go.Proofs.Ytojpklpfnmjikaa
