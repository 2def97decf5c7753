/- A punch and a card: their cells, and the law's own copies and comparisons. No condition. -/
import Derived.Test.YtojpklpfnmjikaaIntS
import Derived.Test.YtojpklpfnmjikaaBase
import Derived.Test.YtojpklpfnmjikaaReg
import Derived.OneCell
namespace Go.Proofs.Ytojpklpfnmjikaa
open Go Go.RowKit

structure Punch where
  code : Int
  time : Int

def Punch.lst (p : Punch) : List Value := [.int .i64 p.code, .int .i64 p.time]
theorem Punch.lst_len (p : Punch) : p.lst.length = 2 := rfl
abbrev Punch.val (p : Punch) : Value := .agg p.lst.toArray
theorem Punch.one (p : Punch) : ∀ u ∈ p.lst, u.oneCell' = true := by simp [Punch.lst, Value.oneCell']
def Punch.ok (p : Punch) : Prop := I64 p.code ∧ I64 p.time
def punchZ : List Value := [.int .i64 0, .int .i64 0]
def punchSh : Sh := .cat 3 (.int .i64) (.cat 3 (.int .i64) (.emp))
theorem punch_of_holds {w : World} {cs : List Value} (h : Holds w punchSh cs) : ∃ p : Punch, cs = p.lst ∧ p.ok := by
  obtain ⟨_, _, rfl, _, ⟨n0, rfl, w0⟩, _, _, rfl, _, ⟨n1, rfl, w1⟩, rfl⟩ := h
  exact ⟨⟨n0, n1⟩, rfl, i64_of_wf w0, i64_of_wf w1⟩
theorem Punch.rangeNew (w : World) (p : Punch) (t : TypeId) : (w.alloc (.cells #[.int .i64 p.code, .int .i64 p.time] t)).rangeAt w.heap.size 0 p.lst := rangeAt_new w p.lst t
theorem Punch.cells {w : World} {b off : Nat} {p : Punch} (h : w.rangeAt b off p.lst) : w.cell? ⟨b, off, none⟩ = some (.int .i64 p.code) ∧ w.cell? ⟨b, off + 1, none⟩ = some (.int .i64 p.time) :=
  ⟨h 0 _ rfl, h 1 _ rfl⟩
theorem Punch.cellsNew (w : World) (p : Punch) (t : TypeId) : ∀ s : After (w.alloc (.cells #[.int .i64 p.code, .int .i64 p.time] t)), s.w'.cell? ⟨w.heap.size, 0, none⟩ = some (.int .i64 p.code) ∧ s.w'.cell? ⟨w.heap.size, 1, none⟩ = some (.int .i64 p.time) := by
  intro s
  obtain ⟨h0, h1⟩ := Punch.cells (rangeAt_below (Punch.rangeNew w p t) s.hb)
  simp only [Nat.zero_add] at h1
  exact ⟨h0, h1⟩
theorem Punch.cellsOld {w : World} {b off : Nat} {p : Punch} (h : w.rangeAt b off p.lst) : ∀ s : After w, s.w'.cell? ⟨b, off, none⟩ = some (.int .i64 p.code) ∧ s.w'.cell? ⟨b, off + 1, none⟩ = some (.int .i64 p.time) :=
  fun s => Punch.cells (rangeAt_below h s.hb)
theorem stPunchLaws : St Try.prog 114 2 := ⟨⟨_, Try.underlying114⟩, by kernel_rfl⟩
theorem Punch.loadLaws {w : World} {ops : Array Oper} {rest : List Oper} {o : Oper} {a : Act} {Q : Exit → Act → World → Prop} (hgd : o.guard = none) (x : Operand) (ho : o.op = .load 114 x) (b off : Nat) (hx : a.eval x = .pointer (some ⟨b, off, none⟩)) (p : Punch) (hc : w.rangeAt b off p.lst)
    (h : wpList Try.prog ops Q rest (a.put o.dst (.agg #[.int .i64 p.code, .int .i64 p.time])) w) : wpList Try.prog ops Q (o :: rest) a w := stPunchLaws.load hgd x ho b off hx p.lst rfl hc h
theorem Punch.qloadLaws {w : World} {ops : Array Oper} {rest : List Oper} {o : Oper} {a : Act} {Q : Act → Prop} (hw : Region.wanted o (yielded ops a.tmps) = true) (x : Operand) (ho : o.op = .load 114 x) (b off : Nat) (hx : a.eval x = .pointer (some ⟨b, off, none⟩)) (p : Punch) (hc : w.rangeAt b off p.lst)
    (h : wpQuiet Try.prog ops (Cl w) Q rest (a.put o.dst (.agg #[.int .i64 p.code, .int .i64 p.time]))) : wpQuiet Try.prog ops (Cl w) Q (o :: rest) a := stPunchLaws.qload hw x ho b off hx p.lst rfl hc h
theorem stPunchImpl : St Try.prog 77 2 := ⟨⟨_, Try.underlying77⟩, by kernel_rfl⟩
theorem Punch.loadImpl {w : World} {ops : Array Oper} {rest : List Oper} {o : Oper} {a : Act} {Q : Exit → Act → World → Prop} (hgd : o.guard = none) (x : Operand) (ho : o.op = .load 77 x) (b off : Nat) (hx : a.eval x = .pointer (some ⟨b, off, none⟩)) (p : Punch) (hc : w.rangeAt b off p.lst)
    (h : wpList Try.prog ops Q rest (a.put o.dst (.agg #[.int .i64 p.code, .int .i64 p.time])) w) : wpList Try.prog ops Q (o :: rest) a w := stPunchImpl.load hgd x ho b off hx p.lst rfl hc h
theorem Punch.qloadImpl {w : World} {ops : Array Oper} {rest : List Oper} {o : Oper} {a : Act} {Q : Act → Prop} (hw : Region.wanted o (yielded ops a.tmps) = true) (x : Operand) (ho : o.op = .load 77 x) (b off : Nat) (hx : a.eval x = .pointer (some ⟨b, off, none⟩)) (p : Punch) (hc : w.rangeAt b off p.lst)
    (h : wpQuiet Try.prog ops (Cl w) Q rest (a.put o.dst (.agg #[.int .i64 p.code, .int .i64 p.time]))) : wpQuiet Try.prog ops (Cl w) Q (o :: rest) a := stPunchImpl.qload hw x ho b off hx p.lst rfl hc h
theorem tyPunch : Ty Try.prog 49 77 (.agg punchZ.toArray) punchZ 2 16 := ⟨Try.underlying49, by kernel_rfl, rfl, rfl, by decide, by decide⟩
theorem fitPunch : ∃ fs, Fit Try.prog (.str fs punchSh) (.inl 114) := ⟨_, Try.underlying114, by kernel_rfl, ⟨_, _, rfl, rfl, rfl, by kernel_rfl, Try.underlying3, ⟨_, _, rfl, rfl, rfl, by kernel_rfl, Try.underlying3, rfl⟩⟩⟩
theorem fitPunchS : ∃ fs, Fit Try.prog (.sl 114 (.str fs punchSh)) (.inl 60) := by
  obtain ⟨fs, h⟩ := fitPunch
  exact ⟨fs, Try.underlying60, by kernel_rfl, by show 0 < punchSh.size; decide, h⟩


set_option maxHeartbeats 400000 in
theorem toPunch_any (p : Punch) (w : World) :
    Calls Try.prog 129 #[p.val] w fun e w' => e = .returned p.val ∧ Below w.heap.size w w' := by
  obtain ⟨n0, n1⟩ := p
  show Calls Try.prog 129 #[.agg #[.int .i64 n0, .int .i64 n1]] w _
  go_enter Try.func129, Try.ntmps129
  go_wp2
  refine bodyPost_ret (v := .agg #[.int .i64 n0, .int .i64 n1]) (by simp [results, Try.results129, go_sem]) rfl ⟨rfl, ?_⟩
  (repeat (first | exact Below.refl _ _ | assumption | refine Below.drew ?_ | refine Below.alloc ?_ (by first | exact Nat.le_refl _ | (simp; done) | (simp; omega)) _))

theorem szPunchS_any (ps : List Punch) (v : Value) (left : Int) (w : World) (h : Sl (Flat Punch.lst) 2 w v ps) (hl : 0 ≤ left) (hl2 : left ≤ 9223372036854775807) :
    Calls Try.prog 118 #[v, .int .i64 left] w fun e w' => e = .returned (.int .i64 (szLeft left ps.length)) ∧ w = w' := by
  obtain ⟨A, c, rfl, hc, hm, _⟩ := h.open_
  go_enter Try.func118, Try.ntmps118
  go_wp2
  all_goals go_ret
  · exact ⟨ret_int (by unfold szLeft; rw [if_pos (by omega)]), rfl⟩
  · exact ⟨ret_int (by unfold szLeft; rw [if_neg (by omega)]), rfl⟩

set_option maxHeartbeats 400000 in
theorem toPunchS_any (ps : List Punch) (v : Value) (w : World) (h : Sl (Flat Punch.lst) 2 w v ps) (hn : ps.length ≤ 1048576) :
    Calls Try.prog 119 #[v] w fun e w' => ∃ v', e = .returned v' ∧ Row w.heap.size 77 2 w' v' (ps.map Punch.lst) ∧ Below w.heap.size w w' := by
  obtain ⟨A, c, rfl, hc, hm, hk⟩ := h.open_
  go_enter Try.func119, Try.ntmps119
  go_wp2_with (at_make; refine tyPunch.make rfl _ _ rfl w.heap.size ps.length _ _ rfl rfl rfl rfl (by omega) (Nat.le_refl _) ?_; intro w1 hrow1 hb1 hz1)
  go_loopw [4] (fun i wr => ∃ k : Nat, k ≤ ps.length ∧ i = .int .i64 k ∧ Row w.heap.size 77 2 wr (.slice (some ⟨w.heap.size, 0, none⟩) ps.length ps.length) (mixed Punch.lst punchZ ps k) ∧ Below w.heap.size w wr ∧ w.heap.size < wr.heap.size)
    (fun i _ => ps.length - (intOf i).toNat)
  case atStart => exact ⟨0, Nat.zero_le _, rfl, by rw [mixed_zero]; exact hrow1, hb1, hz1⟩
  case round =>
    obtain ⟨k, hkl, rfl, hrow, hb, hz⟩ := hrel
    by_cases hlt : k < ps.length
    · obtain ⟨b, off, rfl, hat⟩ := flat_at hk (by omega)
      have hr := rangeAt_below (hat k hlt) hb
      have hkm : k < (mixed Punch.lst punchZ ps k).length := by rw [mixed_len hkl]; exact hlt
      go_wp2_with (first
        | (refine stPunchLaws.load rfl _ rfl b (off + k * 2) rfl ps[k].lst rfl hr ?_)
        | (go_at_call 129; refine (toPunch_any ps[k] _).mono ?_; rintro e w2 ⟨rfl, hb2⟩; have hrow2 := hrow.below hb2)
        | (refine tyPunch.store rfl _ _ rfl w.heap.size w.heap.size ps.length ps.length k _ _ ps[k].lst hrow2 hkm rfl rfl rfl rfl ps[k].one ?_; intro w3 hrow3 hg3))
      go_roundw
      case rel => exact ⟨k + 1, by omega, by go_num, by rw [← mixed_set Punch.lst punchZ ps k hlt]; exact hrow3, (hb.trans (hb2.mono hb.size)).grown hg3 (Nat.le_trans hb.size hb2.size) (by simp), Nat.lt_of_lt_of_le hz (Nat.le_trans hb2.size hg3.size)⟩
      case measure => simp [intOf]; omega
    · go_wp2
      go_ret
      obtain rfl : k = ps.length := by omega
      rw [mixed_all] at hrow
      exact ⟨_, rfl, hrow, hb⟩

set_option maxHeartbeats 1000000 in
theorem eqPunch_refl (p : Punch) (w : World) :
    Calls Try.prog 130 #[p.val, p.val] w fun e w' => e = .returned (.bool true) ∧ Below w.heap.size w w' := by
  obtain ⟨n0, n1⟩ := p
  show Calls Try.prog 130 #[.agg #[.int .i64 n0, .int .i64 n1], .agg #[.int .i64 n0, .int .i64 n1]] w _
  go_enter Try.func130, Try.ntmps130
  go_wp2
  go_ret
  refine ⟨rfl, ?_⟩
  (repeat (first | exact Below.refl _ _ | assumption | refine Below.drew ?_ | refine Below.alloc ?_ (by first | exact Nat.le_refl _ | (simp; done) | (simp; omega)) _))

set_option maxHeartbeats 400000 in
theorem eqPunchS_refl (ps : List Punch) (v v' : Value) (w : World) (h : Sl (Flat Punch.lst) 2 w v ps) (h' : Sl (Flat Punch.lst) 2 w v' ps) :
    Calls Try.prog 122 #[v, v'] w fun e w' => e = .returned (.bool true) ∧ Below w.heap.size w w' := by
  obtain ⟨A, c, rfl, hc, hm, hk⟩ := h.open_
  obtain ⟨A', c', rfl, hc', hm', hk'⟩ := h'.open_
  go_enter Try.func122, Try.ntmps122
  go_wp2
  go_loopw [5] (fun i wr => ∃ k : Nat, k ≤ ps.length ∧ i = .int .i64 k ∧ Below w.heap.size w wr)
    (fun i _ => ps.length - (intOf i).toNat)
  case atStart => exact ⟨0, Nat.zero_le _, rfl, Below.refl _ _⟩
  case round =>
    obtain ⟨k, hkl, rfl, hb⟩ := hrel
    by_cases hlt : k < ps.length
    · obtain ⟨b, off, rfl, hat⟩ := flat_at hk (by omega)
      obtain ⟨b', off', rfl, hat'⟩ := flat_at hk' (by omega)
      have hr := rangeAt_below (hat k hlt) hb
      have hr' := rangeAt_below (hat' k hlt) hb
      clear hat hat' hk hk' h h'
      go_wp2
      refine region_after (by kernel_rfl) (by kernel_rfl) ?_
      repeat (any_goals (first | go_big_quiet_step (((go_at_call 130; exact Calls.after (v := .bool true) _ (eqPunch_refl ps[k] _)))) | (refine Punch.qloadImpl rfl _ rfl _ _ rfl ps[k] hr ?_) | (refine Punch.qloadImpl rfl _ rfl _ _ rfl ps[k] hr' ?_) | quiet_step (((go_at_call 130; exact Calls.after (v := .bool true) _ (eqPunch_refl ps[k] _))))))
      refine wpQuiet_nil ?_
      intro s
      go_wp2
      go_roundw
      case rel => exact ⟨k + 1, by omega, by go_num, step_ hb (Nat.le_refl _) s.hb⟩
      case measure => simp [intOf]; omega
    · go_wp2
      go_ret
      exact ⟨rfl, hb⟩

def punchMark (k : Int) (i : Nat) : Punch := ⟨k + (2 * i + 0 : Nat), k + (2 * i + 1 : Nat)⟩
def punchMarks (k : Int) (n : Nat) : List Punch := (List.range n).map (punchMark k)
theorem punchMarks_len (k : Int) (n : Nat) : (punchMarks k n).length = n := by simp [punchMarks]
theorem punchMark_sets (l : List Value) (h : l.length = 2) (u0 u1 : Value) : (l.set 0 u0).set 1 u1 = [u0, u1] := by
  match l, h with
  | [_, _], _ => rfl

set_option maxHeartbeats 1000000 in
theorem markPunchS_any (base : Nat) (v : Value) (ys : List (List Value)) (k : Int) (w : World) (h : Row base 77 2 w v ys) (hl : ys.length ≤ 2147483648) (h0 : 0 ≤ k) (h1 : k ≤ 4611686018427387904) :
    Calls Try.prog 60 #[v, .int .i64 k] w fun e w' => e = .returned (.int .i64 (k + (2 * ys.length : Nat))) ∧ Row base 77 2 w' v ((punchMarks k ys.length).map Punch.lst) ∧ w.grownBy w' v.ownBlock := by
  have hm0 : (punchMarks k 0).map Punch.lst = [] := rfl
  by_cases hn : 0 < ys.length
  · obtain ⟨g, cap, rfl, hb, hgl, hcap⟩ := h.form hn
    have hcm : cap ≤ 9223372036854775807 := by
      rcases h.2.2 with ⟨h1, _⟩ | ⟨g', cap', cur, h1, _, _, _, hm, _⟩ <;> simp at h1
      simp only [maxLen] at hm; omega
    go_enter Try.func60, Try.ntmps60
    go_wp2
    go_loopw [1, 5] (fun kk i wr => ∃ j : Nat, j ≤ ys.length ∧ kk = .int .i64 (k + (2 * j : Nat)) ∧ i = .int .i64 j ∧ Row base 77 2 wr (.slice (some ⟨g, 0, none⟩) ys.length cap) (turned (fun i => (punchMark k i).lst) ys j) ∧ w.grownBy wr (some g))
      (fun _ i _ => ys.length - (intOf i).toNat)
    case atStart => exact ⟨0, Nat.zero_le _, by simp, rfl, by rw [turned_zero]; exact h, World.grownBy.refl _ _⟩
    case round =>
      obtain ⟨j, hjl, rfl, rfl, hrow0, hgr⟩ := hrel
      by_cases hlt : j < ys.length
      · have hlt0 : j < (turned (fun i => (punchMark k i).lst) ys j).length := by rw [turned_len hjl]; exact hlt
        go_wp2_with (first
        | (refine put1_ (e := 77) (sz := 2) rfl _ _ _ rfl infoInt base g ys.length cap j 0 _ _ _ hrow0 ?_ (by omega) rfl rfl rfl ?_; (simpa using hlt0); intro w1 hrow1 hg1)
        | (refine put1_ (e := 77) (sz := 2) rfl _ _ _ rfl infoInt base g ys.length cap j 1 _ _ _ hrow1 ?_ (by omega) rfl rfl rfl ?_; (simpa using hlt0); intro w2 hrow2 hg2))
        go_roundw
        case rel =>
          refine ⟨j + 1, by omega, by go_num, by go_num, ?_, (grown_trans (grown_trans hgr hg1) hg2)⟩
          rw [← turned_set _ ys j hlt]
          simp only [List.set_set, List.getElem_set_self] at hrow2
          rw [punchMark_sets _ (hrow0.1 _ (List.getElem_mem _))] at hrow2
          refine Row.set_eq hrow2 ?_
          simp [punchMark, Punch.lst]
          omega
        case measure => simp [intOf]; omega
      · go_wp2
        go_ret
        obtain rfl : j = ys.length := by omega
        rw [turned_all] at hrow0
        refine ⟨rfl, ?_, hgr⟩
        simpa [punchMarks, Function.comp_def] using hrow0
  · have hy : ys = [] := List.eq_nil_of_length_eq_zero (by omega)
    subst hy
    obtain ⟨A, c, rfl⟩ : ∃ A c, v = .slice A 0 c := by
      rcases h.2.2 with ⟨h1, _⟩ | ⟨g', cap', cur, h1, _⟩
      · exact ⟨_, _, h1⟩
      · exact ⟨_, _, h1⟩
    go_enter Try.func60, Try.ntmps60
    go_wp2
    go_loop [1, 5] (fun kk i => kk = .int .i64 k ∧ i = .int .i64 0) (fun _ _ => 0)
    case atStart => exact ⟨rfl, rfl⟩
    case round =>
      obtain ⟨rfl, rfl⟩ := hrel
      go_wp2
      go_ret
      exact ⟨ret_int (by simp), by simpa using h, World.grownBy.refl _ _⟩

set_option maxHeartbeats 1000000 in
theorem heldPunchS_any (v : Value) (n : Nat) (k : Int) (w : World) (h : Sl (Flat Punch.lst) 2 w v (punchMarks k n)) (hl : n ≤ 2147483648) (h0 : 0 ≤ k) (h1 : k ≤ 4611686018427387904) :
    Calls Try.prog 61 #[v, .int .i64 k] w fun e w' => e = .returned (.int .i64 (k + (2 * n : Nat))) ∧ w = w' := by
  obtain ⟨A, c, rfl, hc, hm, hk⟩ := h.open_
  have hlen := punchMarks_len k n
  rw [hlen] at hc
  go_enter Try.func61, Try.ntmps61
  rw [hlen]
  go_wp2
  go_loop [1, 5] (fun kk i => ∃ j : Nat, j ≤ n ∧ kk = .int .i64 (k + (2 * j : Nat)) ∧ i = .int .i64 j)
    (fun _ i => n - (intOf i).toNat)
  case atStart => exact ⟨0, Nat.zero_le _, by simp, rfl⟩
  case round =>
    obtain ⟨j, hjl, rfl, rfl⟩ := hrel
    by_cases hlt : j < n
    · obtain ⟨b, off, rfl, hat⟩ := flat_at hk (by omega)
      have hcs := Punch.cells (hat j (by omega))
      have e1 : (punchMarks k n)[j]'(by omega) = punchMark k j := by simp [punchMarks]
      rw [e1] at hcs
      simp only [punchMark] at hcs
      clear hat hk h e1
      go_wp2
      go_round
      case rel => exact ⟨j + 1, by omega, by go_num, by go_num⟩
      case measure => simp [intOf]; omega
    · go_wp2
      go_ret
      obtain rfl : j = n := by omega
      exact ⟨rfl, rfl⟩

/-- What a card means. -/
structure CdK where
  number : Int
  start : Int
  finish : Int
  punches : List Punch
/-- A card in memory: what it means, and where its punches lie. -/
structure Card where
  k : CdK
  a : Option Addr
  n : Nat
  c : Nat
abbrev Card.sv (p : Card) : Value := .slice p.a p.n p.c
def Card.lst (p : Card) : List Value := [.int .i64 p.k.number, .int .i64 p.k.start, .int .i64 p.k.finish, .slice p.a p.n p.c]
theorem Card.lst_len (p : Card) : p.lst.length = 4 := rfl
abbrev Card.val (p : Card) : Value := .agg p.lst.toArray
theorem Card.one (p : Card) : ∀ u ∈ p.lst, u.oneCell' = true := by simp [Card.lst, Value.oneCell']
/-- The punches of a card read as they are meant. -/
def Card.In (w : World) (p : Card) : Prop := Sl (Flat Punch.lst) 2 w p.sv p.k.punches
theorem Card.In.below {w w' : World} {p : Card} (h : p.In w) (hb : Below w.heap.size w w') : p.In w' := Sl.below (Flat.keeps _) h hb
theorem Card.In.len {w : World} {p : Card} (h : p.In w) : p.n = p.k.punches.length := by
  obtain ⟨A, c, hv, _⟩ := h
  simp only [Value.slice.injEq] at hv
  exact hv.2.1
def CdK.ok (k : CdK) : Prop := I64 k.number ∧ I64 k.start ∧ I64 k.finish ∧ ∀ s ∈ k.punches, s.ok
def cardZ : List Value := [.int .i64 0, .int .i64 0, .int .i64 0, .slice none 0 0]
def cardSh (fp : Array Field) : Sh := .cat 3 (.int .i64) (.cat 3 (.int .i64) (.cat 3 (.int .i64) (.cat 60 (.sl 114 (.str fp punchSh)) .emp)))
theorem punches_of_holds {fp : Array Field} {w : World} {v : Value} (h : Holds w (.sl 114 (.str fp punchSh)) [v]) : ∃ xs : List Punch, Sl (Flat Punch.lst) 2 w v xs ∧ ∀ x ∈ xs, x.ok :=
  flat_of_holds (sh := .str fp punchSh) (fun _ h => punch_of_holds h) h
theorem card_of_holds {fp : Array Field} {w : World} {cs : List Value} (h : Holds w (cardSh fp) cs) : ∃ p : Card, cs = p.lst ∧ p.In w ∧ p.k.ok := by
  obtain ⟨_, _, rfl, _, ⟨n0, rfl, w0⟩, _, _, rfl, _, ⟨n1, rfl, w1⟩, _, _, rfl, _, ⟨n2, rfl, w2⟩, _, _, rfl, _, h1, rfl⟩ := h
  have h1' := h1
  obtain ⟨A, n, c, rfl, _⟩ := h1
  obtain ⟨xs, hs, ho⟩ := punches_of_holds h1'
  exact ⟨⟨⟨n0, n1, n2, xs⟩, A, n, c⟩, rfl, hs, i64_of_wf w0, i64_of_wf w1, i64_of_wf w2, ho⟩
theorem Card.rangeNew (w : World) (p : Card) (t : TypeId) : (w.alloc (.cells #[.int .i64 p.k.number, .int .i64 p.k.start, .int .i64 p.k.finish, .slice p.a p.n p.c] t)).rangeAt w.heap.size 0 p.lst := rangeAt_new w p.lst t
theorem Card.cells {w : World} {b off : Nat} {p : Card} (h : w.rangeAt b off p.lst) : w.cell? ⟨b, off, none⟩ = some (.int .i64 p.k.number) ∧ w.cell? ⟨b, off + 1, none⟩ = some (.int .i64 p.k.start) ∧ w.cell? ⟨b, off + 2, none⟩ = some (.int .i64 p.k.finish) ∧ w.cell? ⟨b, off + 3, none⟩ = some (.slice p.a p.n p.c) :=
  ⟨h 0 _ rfl, h 1 _ rfl, h 2 _ rfl, h 3 _ rfl⟩
theorem Card.cellsNew (w : World) (p : Card) (t : TypeId) : ∀ s : After (w.alloc (.cells #[.int .i64 p.k.number, .int .i64 p.k.start, .int .i64 p.k.finish, .slice p.a p.n p.c] t)), s.w'.cell? ⟨w.heap.size, 0, none⟩ = some (.int .i64 p.k.number) ∧ s.w'.cell? ⟨w.heap.size, 1, none⟩ = some (.int .i64 p.k.start) ∧ s.w'.cell? ⟨w.heap.size, 2, none⟩ = some (.int .i64 p.k.finish) ∧ s.w'.cell? ⟨w.heap.size, 3, none⟩ = some (.slice p.a p.n p.c) := by
  intro s
  obtain ⟨h0, h1, h2, h3⟩ := Card.cells (rangeAt_below (Card.rangeNew w p t) s.hb)
  simp only [Nat.zero_add] at h1 h2 h3
  exact ⟨h0, h1, h2, h3⟩
theorem Card.cellsOld {w : World} {b off : Nat} {p : Card} (h : w.rangeAt b off p.lst) : ∀ s : After w, s.w'.cell? ⟨b, off, none⟩ = some (.int .i64 p.k.number) ∧ s.w'.cell? ⟨b, off + 1, none⟩ = some (.int .i64 p.k.start) ∧ s.w'.cell? ⟨b, off + 2, none⟩ = some (.int .i64 p.k.finish) ∧ s.w'.cell? ⟨b, off + 3, none⟩ = some (.slice p.a p.n p.c) :=
  fun s => Card.cells (rangeAt_below h s.hb)
theorem stCardLaws : St Try.prog 62 4 := ⟨⟨_, Try.underlying62⟩, by kernel_rfl⟩
theorem stCardImpl : St Try.prog 51 4 := ⟨⟨_, Try.underlying51⟩, by kernel_rfl⟩
theorem Card.loadLaws {w : World} {ops : Array Oper} {rest : List Oper} {o : Oper} {a : Act} {Q : Exit → Act → World → Prop} (hgd : o.guard = none) (x : Operand) (ho : o.op = .load 62 x) (b off : Nat) (hx : a.eval x = .pointer (some ⟨b, off, none⟩)) (p : Card) (hc : w.rangeAt b off p.lst)
    (h : wpList Try.prog ops Q rest (a.put o.dst (.agg #[.int .i64 p.k.number, .int .i64 p.k.start, .int .i64 p.k.finish, .slice p.a p.n p.c])) w) : wpList Try.prog ops Q (o :: rest) a w := stCardLaws.load hgd x ho b off hx p.lst rfl hc h
theorem Card.loadImpl {w : World} {ops : Array Oper} {rest : List Oper} {o : Oper} {a : Act} {Q : Exit → Act → World → Prop} (hgd : o.guard = none) (x : Operand) (ho : o.op = .load 51 x) (b off : Nat) (hx : a.eval x = .pointer (some ⟨b, off, none⟩)) (p : Card) (hc : w.rangeAt b off p.lst)
    (h : wpList Try.prog ops Q rest (a.put o.dst (.agg #[.int .i64 p.k.number, .int .i64 p.k.start, .int .i64 p.k.finish, .slice p.a p.n p.c])) w) : wpList Try.prog ops Q (o :: rest) a w := stCardImpl.load hgd x ho b off hx p.lst rfl hc h
theorem Card.qloadImpl {w : World} {ops : Array Oper} {rest : List Oper} {o : Oper} {a : Act} {Q : Act → Prop} (hw : Region.wanted o (yielded ops a.tmps) = true) (x : Operand) (ho : o.op = .load 51 x) (b off : Nat) (hx : a.eval x = .pointer (some ⟨b, off, none⟩)) (p : Card) (hc : w.rangeAt b off p.lst)
    (h : wpQuiet Try.prog ops (Cl w) Q rest (a.put o.dst (.agg #[.int .i64 p.k.number, .int .i64 p.k.start, .int .i64 p.k.finish, .slice p.a p.n p.c]))) : wpQuiet Try.prog ops (Cl w) Q (o :: rest) a := stCardImpl.qload hw x ho b off hx p.lst rfl hc h
theorem fitCard : ∃ fs fp, Fit Try.prog (.str fs (cardSh fp)) (.inl 62) := by
  obtain ⟨fp, hp⟩ := fitPunchS
  exact ⟨_, fp, Try.underlying62, by kernel_rfl, ⟨_, _, rfl, rfl, rfl, by kernel_rfl, Try.underlying3, ⟨_, _, rfl, rfl, rfl, by kernel_rfl, Try.underlying3, ⟨_, _, rfl, rfl, rfl, by kernel_rfl, Try.underlying3, ⟨_, _, rfl, rfl, rfl, by kernel_rfl, hp, rfl⟩⟩⟩⟩⟩

theorem szCard_any (p : Card) (left : Int) (w : World) (h : p.In w) (hl : 0 ≤ left) (hl2 : left ≤ 1048576) :
    Calls Try.prog 91 #[p.val, .int .i64 left] w fun e w' => e = .returned (.int .i64 (szLeft left p.k.punches.length)) ∧ Below w.heap.size w w' := by
  obtain ⟨⟨r0, r1, r2, sp⟩, A, n, c⟩ := p
  have hs : Sl (Flat Punch.lst) 2 w (.slice A n c) sp := h
  obtain ⟨q, hq⟩ : ∃ q, szLeft left sp.length = q := ⟨_, rfl⟩
  have hsz := fun W (hW : Below w.heap.size w W) => szPunchS_any sp (.slice A n c) left W (hs.below (Flat.keeps _) hW) hl (by omega)
  try simp only at hq
  rw [hq] at hsz
  show Calls Try.prog 91 #[.agg #[.int .i64 r0, .int .i64 r1, .int .i64 r2, .slice A n c], .int .i64 left] w fun e w' => e = .returned (.int .i64 (szLeft left sp.length)) ∧ Below w.heap.size w w'
  rw [hq]
  have hq1 : -1 ≤ q := by rw [← hq]; unfold szLeft; split <;> omega
  clear hq hs h
  go_enter Try.func91, Try.ntmps91
  go_wp2_with (go_at_call 118; refine (hsz _ (by (repeat (first | exact Below.refl _ _ | assumption | refine Below.drew ?_ | refine Below.alloc ?_ (by first | exact Nat.le_refl _ | (simp; done) | (simp; omega)) _)))).mono ?_; rintro e w' ⟨rfl, rfl⟩)
  all_goals go_ret
  · refine ⟨ret_int (by omega), by (repeat (first | exact Below.refl _ _ | assumption | refine Below.drew ?_ | refine Below.alloc ?_ (by first | exact Nat.le_refl _ | (simp; done) | (simp; omega)) _))⟩
  · refine ⟨rfl, by (repeat (first | exact Below.refl _ _ | assumption | refine Below.drew ?_ | refine Below.alloc ?_ (by first | exact Nat.le_refl _ | (simp; done) | (simp; omega)) _))⟩

set_option maxHeartbeats 2000000 in
theorem toCard_any (p : Card) (w : World) (h : p.In w) (hn : p.k.punches.length ≤ 1048576) :
    Calls Try.prog 93 #[p.val] w fun e w' => ∃ p' : Card, e = .returned p'.val ∧ p'.k = p.k ∧ Row (w.heap.size + 1) 77 2 w' p'.sv (p'.k.punches.map Punch.lst) ∧ Below w.heap.size w w' := by
  obtain ⟨⟨r0, r1, r2, sp⟩, A, n, c⟩ := p
  have hs : Sl (Flat Punch.lst) 2 w (.slice A n c) sp := h
  show Calls Try.prog 93 #[.agg #[.int .i64 r0, .int .i64 r1, .int .i64 r2, .slice A n c]] w _
  simp only at hn
  clear h
  go_enter Try.func93, Try.ntmps93
  go_wp2_with fail
  have hW : Below w.heap.size w (((w.alloc (.cells #[.int .i64 r0, .int .i64 r1, .int .i64 r2, .slice A n c] 62)).alloc (.cells #[.int .i64 0, .int .i64 0, .int .i64 0, .slice none 0 0] 51)).alloc (.cells #[.int .i64 r0, .int .i64 r1, .int .i64 r2, .slice none 0 0] 51)) := by (repeat (first | exact Below.refl _ _ | assumption | refine Below.drew ?_ | refine Below.alloc ?_ (by first | exact Nat.le_refl _ | (simp; done) | (simp; omega)) _))
  have hl1 : LitAt (((w.alloc (.cells #[.int .i64 r0, .int .i64 r1, .int .i64 r2, .slice A n c] 62)).alloc (.cells #[.int .i64 0, .int .i64 0, .int .i64 0, .slice none 0 0] 51)).alloc (.cells #[.int .i64 r0, .int .i64 r1, .int .i64 r2, .slice none 0 0] 51)) (w.heap.size + 1) 51 [.int .i64 0, .int .i64 0, .int .i64 0, .slice none 0 0] := LitAt.alloc (LitAt.new _ _ _ _ (by simp)) _
  have hl2 : LitAt (((w.alloc (.cells #[.int .i64 r0, .int .i64 r1, .int .i64 r2, .slice A n c] 62)).alloc (.cells #[.int .i64 0, .int .i64 0, .int .i64 0, .slice none 0 0] 51)).alloc (.cells #[.int .i64 r0, .int .i64 r1, .int .i64 r2, .slice none 0 0] 51)) (w.heap.size + 1 + 1) 51 [.int .i64 r0, .int .i64 r1, .int .i64 r2, .slice none 0 0] := LitAt.new _ _ _ _ (by simp)
  have hsz : (((w.alloc (.cells #[.int .i64 r0, .int .i64 r1, .int .i64 r2, .slice A n c] 62)).alloc (.cells #[.int .i64 0, .int .i64 0, .int .i64 0, .slice none 0 0] 51)).alloc (.cells #[.int .i64 r0, .int .i64 r1, .int .i64 r2, .slice none 0 0] 51)).heap.size = w.heap.size + 3 := by simp
  generalize ((w.alloc (.cells #[.int .i64 r0, .int .i64 r1, .int .i64 r2, .slice A n c] 62)).alloc (.cells #[.int .i64 0, .int .i64 0, .int .i64 0, .slice none 0 0] 51)).alloc (.cells #[.int .i64 r0, .int .i64 r1, .int .i64 r2, .slice none 0 0] 51) = W at hW hl1 hl2 hsz ⊢
  refine (toPunchS_any sp _ W (hs.below (Flat.keeps _) hW) hn).mono ?_
  rintro e w1 ⟨v', rfl, row, hb1⟩
  have hB1 := step_ hW (Nat.le_refl _) hb1
  have hm1 := hl1.below hb1
  have hm2 := hl2.below hb1
  have hc10 := hm1.range 0 _ rfl
  have hc11 := hm1.range 1 _ rfl
  have hc12 := hm1.range 2 _ rfl
  have hc13 := hm1.range 3 _ rfl
  have hc20 := hm2.range 0 _ rfl
  have hc21 := hm2.range 1 _ rfl
  have hc22 := hm2.range 2 _ rfl
  have hc23 := hm2.range 3 _ rfl
  have hf1 := hm1.frozen
  have hf2 := hm2.frozen
  simp only [Nat.zero_add] at hc10 hc11 hc12 hc13 hc20 hc21 hc22 hc23
  obtain ⟨A', c', rfl, hc', _⟩ := row.parts
  simp only [List.length_map] at hc' row ⊢
  have ROW := Lib.hid row
  have HSZ := Lib.hid hsz
  have HB1 := Lib.hid hB1
  clear hs hn row hsz hB1 hm1 hm2 hl1 hl2 hW hc'
  go_wp2
  have hn1 : ∀ q, (Value.slice A' sp.length c').ownBlock = some q → w.heap.size + 3 ≤ q := fun q hq => by have := (ROW.out.lt q hq).1; have := HSZ.out; omega
  refine bodyPost_ret (v := .agg #[.int .i64 r0, .int .i64 r1, .int .i64 r2, .slice A' sp.length c']) (by simp [results, Try.results93, go_sem, hc10, hc11, hc12, hc13]) rfl ⟨⟨⟨r0, r1, r2, sp⟩, A', sp.length, c'⟩, rfl, rfl, ?_, ?_⟩
  · refine ⟨ROW.out.1, ?_⟩
    have h0 := (ROW.out.mono (base' := w.heap.size + 1) (by have := HSZ.out; omega)).2
    repeat (first | (with_reducible exact h0) | (with_reducible refine ownsRow_setCell_other ?_ (fun e => by have := hn1 _ e; simp only at this; omega) _))
  · repeat (first | (with_reducible exact HB1.out) | (with_reducible refine Below.setCell ?_ (by simp <;> omega) _))

set_option maxHeartbeats 1000000 in
theorem eqCard_refl (p q : Card) (w : World) (hk : p.k = q.k) (hp : p.In w) (hq : q.In w) :
    Calls Try.prog 97 #[p.val, q.val] w fun e w' => e = .returned (.bool true) ∧ Below w.heap.size w w' := by
  obtain ⟨⟨r0, r1, r2, sp⟩, A, n, c⟩ := p
  obtain ⟨⟨r0', r1', r2', sp'⟩, A', n', c'⟩ := q
  simp only [CdK.mk.injEq] at hk
  obtain ⟨rfl, rfl, rfl, rfl⟩ := hk
  have h1 : Sl (Flat Punch.lst) 2 w (.slice A n c) sp := hp
  have h2 : Sl (Flat Punch.lst) 2 w (.slice A' n' c') sp := hq
  show Calls Try.prog 97 #[.agg #[.int .i64 r0, .int .i64 r1, .int .i64 r2, .slice A n c], .agg #[.int .i64 r0, .int .i64 r1, .int .i64 r2, .slice A' n' c']] w _
  have HC := Lib.hid (fun W (hW : Below w.heap.size w W) => eqPunchS_refl sp _ _ W (h1.below (Flat.keeps _) hW) (h2.below (Flat.keeps _) hW))
  have hW : Below w.heap.size w ((w.alloc (.cells #[.int .i64 r0, .int .i64 r1, .int .i64 r2, .slice A n c] 51)).alloc (.cells #[.int .i64 r0, .int .i64 r1, .int .i64 r2, .slice A' n' c'] 51)) := by (repeat (first | exact Below.refl _ _ | assumption | refine Below.drew ?_ | refine Below.alloc ?_ (by first | exact Nat.le_refl _ | (simp; done) | (simp; omega)) _))
  clear hp hq h1 h2
  go_enter Try.func97, Try.ntmps97
  go_wp2_with (go_at_call 122; refine (HC.out _ hW).mono ?_; rintro e w1 ⟨rfl, hb1⟩)
  go_ret
  exact ⟨rfl, step_ hW (Nat.le_refl _) hb1⟩
end Go.Proofs.Ytojpklpfnmjikaa
