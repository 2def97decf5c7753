/- Runs: their cells, and the law's own copies, sizes and comparisons. No condition. -/
import Derived.Test.YtfmgnbkneccekaaCd
import Derived.Test.YtfmgnbkneccekaaFrame
namespace Go.Proofs.Ytfmgnbkneccekaa
open Go Go.RowKit
/-- What it means. -/
structure RunK where
  runner : Int
  started : Bool
  out : Bool
  card : CdK
structure Run where
  runner : Int
  started : Bool
  out : Bool
  card : Card
def Run.k (p : Run) : RunK := ⟨p.runner, p.started, p.out, p.card.k⟩
def Run.lst (p : Run) : List Value := [.int .i64 p.runner, .bool p.started, .bool p.out, .int .i64 p.card.k.number, .int .i64 p.card.k.start, .int .i64 p.card.k.finish, .slice p.card.a p.card.n p.card.c]
theorem Run.lst_len (p : Run) : p.lst.length = 7 := rfl
abbrev Run.val (p : Run) : Value := .agg p.lst.toArray
theorem Run.one (p : Run) : ∀ u ∈ p.lst, u.oneCell' = true := by simp [Run.lst, Value.oneCell']
/-- A slice of them. -/
def RunS (w : World) (v : Value) (xs : List Run) : Prop := Sl (Flat Run.lst) 7 w v xs ∧ ∀ p ∈ xs, p.card.In w
theorem RunS.below {w w' : World} {v : Value} {xs : List Run} (h : RunS w v xs) (hb : Below w.heap.size w w') : RunS w' v xs := ⟨h.1.below (Flat.keeps _) hb, fun p hp => (h.2 p hp).below hb⟩
def RunK.ok (p : RunK) : Prop := I64 p.runner ∧ p.card.ok
def runZ : List Value := [.int .i64 0, .bool false, .bool false, .int .i64 0, .int .i64 0, .int .i64 0, .slice none 0 0]
def runSh (fc fp : Array Field) : Sh := .cat 3 (.int .i64) (.cat 4 (.bool) (.cat 4 (.bool) (.cat 115 (.str fc (cardSh fp)) .emp)))
theorem run_of_holds {fc fp : Array Field} {w : World} {cs : List Value} (h : Holds w (runSh fc fp) cs) : ∃ p : Run, cs = p.lst ∧ p.card.In w ∧ p.k.ok := by
  obtain ⟨_, _, rfl, _, ⟨n0, rfl, w0⟩, _, _, rfl, _, ⟨n1, rfl⟩, _, _, rfl, _, ⟨n2, rfl⟩, _, _, rfl, _, h1, rfl⟩ := h
  obtain ⟨d, rfl, hi, hok⟩ := card_of_holds h1
  exact ⟨⟨n0, n1, n2, d⟩, by simp [Run.lst, Card.lst], hi, i64_of_wf w0, hok⟩
theorem Run.rangeNew (w : World) (p : Run) (t : TypeId) : (w.alloc (.cells #[.int .i64 p.runner, .bool p.started, .bool p.out, .int .i64 p.card.k.number, .int .i64 p.card.k.start, .int .i64 p.card.k.finish, .slice p.card.a p.card.n p.card.c] t)).rangeAt w.heap.size 0 p.lst := rangeAt_new w p.lst t
theorem Run.cells {w : World} {b off : Nat} {p : Run} (h : w.rangeAt b off p.lst) : w.cell? ⟨b, off, none⟩ = some (.int .i64 p.runner) ∧ w.cell? ⟨b, off + 1, none⟩ = some (.bool p.started) ∧ w.cell? ⟨b, off + 2, none⟩ = some (.bool p.out) ∧ w.cell? ⟨b, off + 3, none⟩ = some (.int .i64 p.card.k.number) ∧ w.cell? ⟨b, off + 4, none⟩ = some (.int .i64 p.card.k.start) ∧ w.cell? ⟨b, off + 5, none⟩ = some (.int .i64 p.card.k.finish) ∧ w.cell? ⟨b, off + 6, none⟩ = some (.slice p.card.a p.card.n p.card.c) :=
  ⟨h 0 _ rfl, h 1 _ rfl, h 2 _ rfl, h 3 _ rfl, h 4 _ rfl, h 5 _ rfl, h 6 _ rfl⟩
theorem Run.cellsNew (w : World) (p : Run) (t : TypeId) : ∀ s : After (w.alloc (.cells #[.int .i64 p.runner, .bool p.started, .bool p.out, .int .i64 p.card.k.number, .int .i64 p.card.k.start, .int .i64 p.card.k.finish, .slice p.card.a p.card.n p.card.c] t)), s.w'.cell? ⟨w.heap.size, 0, none⟩ = some (.int .i64 p.runner) ∧ s.w'.cell? ⟨w.heap.size, 1, none⟩ = some (.bool p.started) ∧ s.w'.cell? ⟨w.heap.size, 2, none⟩ = some (.bool p.out) ∧ s.w'.cell? ⟨w.heap.size, 3, none⟩ = some (.int .i64 p.card.k.number) ∧ s.w'.cell? ⟨w.heap.size, 4, none⟩ = some (.int .i64 p.card.k.start) ∧ s.w'.cell? ⟨w.heap.size, 5, none⟩ = some (.int .i64 p.card.k.finish) ∧ s.w'.cell? ⟨w.heap.size, 6, none⟩ = some (.slice p.card.a p.card.n p.card.c) := by
  intro s
  obtain ⟨h0, h1, h2, h3, h4, h5, h6⟩ := Run.cells (rangeAt_below (Run.rangeNew w p t) s.hb)
  simp only [Nat.zero_add] at h1 h2 h3 h4 h5 h6
  exact ⟨h0, h1, h2, h3, h4, h5, h6⟩
theorem Run.cellsOld {w : World} {b off : Nat} {p : Run} (h : w.rangeAt b off p.lst) : ∀ s : After w, s.w'.cell? ⟨b, off, none⟩ = some (.int .i64 p.runner) ∧ s.w'.cell? ⟨b, off + 1, none⟩ = some (.bool p.started) ∧ s.w'.cell? ⟨b, off + 2, none⟩ = some (.bool p.out) ∧ s.w'.cell? ⟨b, off + 3, none⟩ = some (.int .i64 p.card.k.number) ∧ s.w'.cell? ⟨b, off + 4, none⟩ = some (.int .i64 p.card.k.start) ∧ s.w'.cell? ⟨b, off + 5, none⟩ = some (.int .i64 p.card.k.finish) ∧ s.w'.cell? ⟨b, off + 6, none⟩ = some (.slice p.card.a p.card.n p.card.c) :=
  fun s => Run.cells (rangeAt_below h s.hb)
theorem Run.cardRange {w : World} {b off : Nat} {p : Run} (h : w.rangeAt b off p.lst) : w.rangeAt b (off + 3) p.card.lst := by
  intro j u hu
  have hj : j < 4 := (List.getElem?_eq_some_iff.1 hu).1
  have := h (3 + j) u (by
    match j, hj with
    | 0, _ => exact hu
    | 1, _ => exact hu
    | 2, _ => exact hu
    | 3, _ => exact hu)
  rwa [← Nat.add_assoc] at this
theorem stRunImpl : St Try.prog 94 7 := ⟨⟨_, Try.underlying94⟩, by kernel_rfl⟩
theorem Run.loadImpl {w : World} {ops : Array Oper} {rest : List Oper} {o : Oper} {a : Act} {Q : Exit → Act → World → Prop} (hgd : o.guard = none) (x : Operand) (ho : o.op = .load 94 x) (b off : Nat) (hx : a.eval x = .pointer (some ⟨b, off, none⟩)) (p : Run) (hc : w.rangeAt b off p.lst)
    (h : wpList Try.prog ops Q rest (a.put o.dst (.agg #[.int .i64 p.runner, .bool p.started, .bool p.out, .int .i64 p.card.k.number, .int .i64 p.card.k.start, .int .i64 p.card.k.finish, .slice p.card.a p.card.n p.card.c])) w) : wpList Try.prog ops Q (o :: rest) a w := stRunImpl.load hgd x ho b off hx p.lst rfl hc h
theorem Run.qloadImpl {w : World} {ops : Array Oper} {rest : List Oper} {o : Oper} {a : Act} {Q : Act → Prop} (hw : Region.wanted o (yielded ops a.tmps) = true) (x : Operand) (ho : o.op = .load 94 x) (b off : Nat) (hx : a.eval x = .pointer (some ⟨b, off, none⟩)) (p : Run) (hc : w.rangeAt b off p.lst)
    (h : wpQuiet Try.prog ops (Cl w) Q rest (a.put o.dst (.agg #[.int .i64 p.runner, .bool p.started, .bool p.out, .int .i64 p.card.k.number, .int .i64 p.card.k.start, .int .i64 p.card.k.finish, .slice p.card.a p.card.n p.card.c]))) : wpQuiet Try.prog ops (Cl w) Q (o :: rest) a := stRunImpl.qload hw x ho b off hx p.lst rfl hc h
theorem tyRun : Ty Try.prog 45 94 (.agg runZ.toArray) runZ 7 64 := ⟨Try.underlying45, by kernel_rfl, rfl, rfl, by decide, by decide⟩
/-- A raw slice argument of them. -/
theorem runS_of_holds {e : TypeId} {fs fc fp : Array Field} {w : World} {v : Value} (h : Holds w (.sl e (.str fs (runSh fc fp))) [v]) : ∃ xs : List Run, RunS w v xs ∧ ∀ p ∈ xs, p.k.ok := by
  obtain ⟨xs, hs, ho⟩ := flat_of_holds (sh := .str fs (runSh fc fp)) (enc := Run.lst) (ok := fun p => p.card.In w ∧ p.k.ok) (fun cs h => run_of_holds h) h
  exact ⟨xs, ⟨hs, fun p hp => (ho p hp).1⟩, fun p hp => (ho p hp).2⟩

/-- Two whose punches lie apart. -/
def Run.Ap (p q : Run) : Prop := p.card.sv.ownBlock = none ∨ p.card.sv.ownBlock ≠ q.card.sv.ownBlock
/-- Those of the call's own, the outer row and the inner ones all apart. -/
def RunR (base : Nat) (w : World) (v : Value) (zs : List Run) : Prop :=
  Row base 94 7 w v (zs.map Run.lst) ∧ (∀ z ∈ zs, Row base 89 2 w z.card.sv (z.card.k.punches.map Punch.lst) ∧ (z.card.sv.ownBlock = none ∨ z.card.sv.ownBlock ≠ v.ownBlock)) ∧ zs.Pairwise Run.Ap
theorem RunR.below {base : Nat} {w w' : World} {v : Value} {zs : List Run} (h : RunR base w v zs) (hb : Below w.heap.size w w') : RunR base w' v zs :=
  ⟨h.1.below hb, fun z hz => ⟨(h.2.1 z hz).1.below hb, (h.2.1 z hz).2⟩, h.2.2⟩
theorem RunR.mono {base base' : Nat} {w : World} {v : Value} {zs : List Run} (h : RunR base w v zs) (hb : base' ≤ base) : RunR base' w v zs :=
  ⟨h.1.mono hb, fun z hz => ⟨(h.2.1 z hz).1.mono hb, (h.2.1 z hz).2⟩, h.2.2⟩
theorem RunR.s {base : Nat} {w : World} {v : Value} {zs : List Run} (h : RunR base w v zs) : RunS w v zs :=
  ⟨Sl.of_flat h.1, fun z hz => Sl.of_flat (h.2.1 z hz).1⟩
theorem RunR.nil {w : World} {base : Nat} : RunR base w (.slice none 0 0) [] := ⟨Row.nil _ _ _ _, fun z hz => absurd hz (by simp), List.Pairwise.nil⟩

set_option maxHeartbeats 2000000 in
theorem eqRun_refl (p q : Run) (w : World) (hk : p.k = q.k) (hp : p.card.In w) (hq : q.card.In w) :
    Calls Try.prog 72 #[p.val, q.val] w fun e w' => e = .returned (.bool true) ∧ Below w.heap.size w w' := by
  obtain ⟨h0, h1, h2, ⟨⟨r0, r1, r2, sp⟩, A, n, c⟩⟩ := p
  obtain ⟨h0', h1', h2', ⟨⟨r0', r1', r2', sp'⟩, A', n', c'⟩⟩ := q
  simp only [Run.k, RunK.mk.injEq, CdK.mk.injEq] at hk
  obtain ⟨rfl, rfl, rfl, rfl, rfl, rfl, rfl⟩ := hk
  show Calls Try.prog 72 #[.agg #[.int .i64 h0, .bool h1, .bool h2, .int .i64 r0, .int .i64 r1, .int .i64 r2, .slice A n c], .agg #[.int .i64 h0, .bool h1, .bool h2, .int .i64 r0, .int .i64 r1, .int .i64 r2, .slice A' n' c']] w _
  have hW1 : Below w.heap.size w (w.alloc (.cells #[.int .i64 h0, .bool h1, .bool h2, .int .i64 r0, .int .i64 r1, .int .i64 r2, .slice A n c] 94)) := below_alloc (Below.refl _ _) _
  have hW : Below w.heap.size w ((w.alloc (.cells #[.int .i64 h0, .bool h1, .bool h2, .int .i64 r0, .int .i64 r1, .int .i64 r2, .slice A n c] 94)).alloc (.cells #[.int .i64 h0, .bool h1, .bool h2, .int .i64 r0, .int .i64 r1, .int .i64 r2, .slice A' n' c'] 94)) := below_alloc hW1 _
  have HC := Lib.hid (fun (s : After ((w.alloc (.cells #[.int .i64 h0, .bool h1, .bool h2, .int .i64 r0, .int .i64 r1, .int .i64 r2, .slice A n c] 94)).alloc (.cells #[.int .i64 h0, .bool h1, .bool h2, .int .i64 r0, .int .i64 r1, .int .i64 r2, .slice A' n' c'] 94))) => eqCard_refl ⟨⟨r0, r1, r2, sp⟩, A, n, c⟩ ⟨⟨r0, r1, r2, sp⟩, A', n', c'⟩ s.w' rfl (Card.In.below (Card.In.below hp hW) s.hb) (Card.In.below (Card.In.below hq hW) s.hb))
  have hr1 := rangeAt_below (Run.cardRange (Run.rangeNew w ⟨h0, h1, h2, ⟨⟨r0, r1, r2, sp⟩, A, n, c⟩⟩ 94)) (below_alloc (Below.refl _ _) (.cells #[.int .i64 h0, .bool h1, .bool h2, .int .i64 r0, .int .i64 r1, .int .i64 r2, .slice A' n' c'] 94))
  have hr2 := Run.cardRange (Run.rangeNew (w.alloc (.cells #[.int .i64 h0, .bool h1, .bool h2, .int .i64 r0, .int .i64 r1, .int .i64 r2, .slice A n c] 94)) ⟨h0, h1, h2, ⟨⟨r0, r1, r2, sp⟩, A', n', c'⟩⟩ 94)
  have hs1 : (w.alloc (.cells #[.int .i64 h0, .bool h1, .bool h2, .int .i64 r0, .int .i64 r1, .int .i64 r2, .slice A n c] 94)).heap.size = w.heap.size + 1 := by simp
  rw [hs1] at hr2
  simp only [Nat.zero_add] at hr1 hr2
  have HW := Lib.hid hW
  clear hp hq hs1 hW hW1
  go_enter Try.func72, Try.ntmps72
  go_wp2_with (first
    | ((with_reducible refine at_load_ 73 ?_); refine Card.loadImpl rfl _ rfl w.heap.size 3 rfl ⟨⟨r0, r1, r2, sp⟩, A, n, c⟩ hr1 ?_)
    | ((with_reducible refine at_load_ 73 ?_); refine Card.loadImpl rfl _ rfl (w.heap.size + 1) 3 rfl ⟨⟨r0, r1, r2, sp⟩, A', n', c'⟩ hr2 ?_)
    | (go_at_call 98; refine (HC.out ⟨_, Below.refl _ _⟩).mono ?_; rintro e w3 ⟨rfl, hb3⟩))
  go_ret
  exact ⟨rfl, step_ HW.out (Nat.le_refl _) hb3⟩

set_option maxHeartbeats 1000000 in
theorem eqRunS_refl (ps qs : List Run) (v v' : Value) (w : World) (h : RunS w v ps) (h' : RunS w v' qs) (hkk : ps.map Run.k = qs.map Run.k) :
    Calls Try.prog 33 #[v, v'] w fun e w' => e = .returned (.bool true) ∧ Below w.heap.size w w' := by
  have hl : ps.length = qs.length := by have := congrArg List.length hkk; simpa using this
  have HKE := Lib.hid (show ∀ k (h1 : k < ps.length) (h2 : k < qs.length), ps[k].k = qs[k].k by
    intro k h1 h2
    have : (ps.map Run.k)[k]? = (qs.map Run.k)[k]? := by rw [hkk]
    simpa [h1, h2] using this)
  have HI := Lib.hid h.2
  have HI' := Lib.hid h'.2
  obtain ⟨A, c, rfl, hc, hm, hk⟩ := h.1.open_
  obtain ⟨A', c', rfl, hc', hm', hk'⟩ := h'.1.open_
  have HL := Lib.hid hl
  obtain ⟨n, hn⟩ : ∃ n, qs.length = n := ⟨_, rfl⟩
  have HN := Lib.hid hn
  have hpn : ps.length = n := by rw [hl, hn]
  rw [hn] at hc'
  rw [hpn] at hc
  clear h h' hkk hl
  rw [hn, hpn]
  have HP := Lib.hid hpn
  clear hn hpn
  go_enter Try.func33, Try.ntmps33
  go_wp2
  go_loopw [5] (fun i wr => ∃ k : Nat, k ≤ n ∧ i = .int .i64 k ∧ Below w.heap.size w wr)
    (fun i _ => n - (intOf i).toNat)
  case atStart => exact ⟨0, Nat.zero_le _, rfl, Below.refl _ _⟩
  case round =>
    obtain ⟨k, hkl, rfl, hb⟩ := hrel
    by_cases hlt : k < n
    · have hlp : k < ps.length := by rw [HP.out]; exact hlt
      have hlq : k < qs.length := by rw [HN.out]; exact hlt
      obtain ⟨b, off, rfl, hat⟩ := flat_at hk (by omega)
      obtain ⟨b', off', rfl, hat'⟩ := flat_at hk' (by omega)
      have hr := rangeAt_below (hat k hlp) hb
      have hr' := rangeAt_below (hat' k hlq) hb
      have HC := Lib.hid (fun (s : After wr) => eqRun_refl ps[k] qs[k] s.w' (HKE.out k hlp hlq) (((HI.out _ (List.getElem_mem hlp)).below hb).below s.hb) (((HI'.out _ (List.getElem_mem hlq)).below hb).below s.hb))
      clear hat hat' hk hk'
      go_wp2
      refine region_after (by kernel_rfl) (by kernel_rfl) ?_
      repeat (any_goals (first | go_big_quiet_step (((go_at_call 72; exact Calls.after (v := .bool true) _ (HC.out _)))) | (refine Run.qloadImpl rfl _ rfl b (off + k * 7) rfl ps[k] hr ?_) | (refine Run.qloadImpl rfl _ rfl b' (off' + k * 7) rfl qs[k] hr' ?_) | quiet_step (((go_at_call 72; exact Calls.after (v := .bool true) _ (HC.out _)))) | (refine wpQuiet_step (fun K hK => ?_); go_simp; split <;> (refine hK _ ?_; clear hK K))))
      all_goals (refine wpQuiet_nil ?_; intro s)
      go_wp2
      go_roundw
      case rel => exact ⟨k + 1, by omega, by go_num, step_ hb (Nat.le_refl _) s.hb⟩
      case measure => simp [intOf]; omega
    · go_wp2
      go_ret
      exact ⟨rfl, hb⟩


end Go.Proofs.Ytfmgnbkneccekaa
