/- The walks of the tests on one protest. No condition. -/
import Derived.Test.YtabihggfnofcbaaProg
import Derived.Test.YtabihggfnofcbaaSl
import Derived.Test.YtabihggfnofcbaaBase
import Derived.Outline
namespace Go.Proofs.Ytabihggfnofcbaa
open Go Go.RowKit

structure Prot where
  id : Int
  against : Int
  by_ : Int
  made : Int
  state : Int
  votes : Int

def Prot.lst (p : Prot) : List Value := [.int .i64 p.id, .int .i64 p.against, .int .i64 p.by_, .int .i64 p.made, .int .i64 p.state, .int .i64 p.votes]
theorem Prot.lst_len (p : Prot) : p.lst.length = 6 := rfl
abbrev Prot.val (p : Prot) : Value := .agg p.lst.toArray
theorem Prot.one (p : Prot) : ∀ u ∈ p.lst, u.oneCell' = true := by simp [Prot.lst, Value.oneCell']
def Prot.ok (p : Prot) : Prop := I64 p.id ∧ I64 p.against ∧ I64 p.by_ ∧ I64 p.made ∧ I64 p.state ∧ I64 p.votes
def protZ : List Value := [.int .i64 0, .int .i64 0, .int .i64 0, .int .i64 0, .int .i64 0, .int .i64 0]
def protSh : Sh := .cat 3 (.int .i64) (.cat 3 (.int .i64) (.cat 3 (.int .i64) (.cat 3 (.int .i64) (.cat 3 (.int .i64) (.cat 3 (.int .i64) (.emp))))))
theorem prot_of_holds {w : World} {cs : List Value} (h : Holds w protSh cs) : ∃ p : Prot, cs = p.lst ∧ p.ok := by
  obtain ⟨_, _, rfl, _, ⟨n0, rfl, w0⟩, _, _, rfl, _, ⟨n1, rfl, w1⟩, _, _, rfl, _, ⟨n2, rfl, w2⟩, _, _, rfl, _, ⟨n3, rfl, w3⟩, _, _, rfl, _, ⟨n4, rfl, w4⟩, _, _, rfl, _, ⟨n5, rfl, w5⟩, rfl⟩ := h
  exact ⟨⟨n0, n1, n2, n3, n4, n5⟩, rfl, i64_of_wf w0, i64_of_wf w1, i64_of_wf w2, i64_of_wf w3, i64_of_wf w4, i64_of_wf w5⟩
theorem Prot.rangeNew (w : World) (p : Prot) (t : TypeId) : (w.alloc (.cells #[.int .i64 p.id, .int .i64 p.against, .int .i64 p.by_, .int .i64 p.made, .int .i64 p.state, .int .i64 p.votes] t)).rangeAt w.heap.size 0 p.lst := rangeAt_new w p.lst t
theorem Prot.cells {w : World} {b off : Nat} {p : Prot} (h : w.rangeAt b off p.lst) : w.cell? ⟨b, off, none⟩ = some (.int .i64 p.id) ∧ w.cell? ⟨b, off + 1, none⟩ = some (.int .i64 p.against) ∧ w.cell? ⟨b, off + 2, none⟩ = some (.int .i64 p.by_) ∧ w.cell? ⟨b, off + 3, none⟩ = some (.int .i64 p.made) ∧ w.cell? ⟨b, off + 4, none⟩ = some (.int .i64 p.state) ∧ w.cell? ⟨b, off + 5, none⟩ = some (.int .i64 p.votes) :=
  ⟨h 0 _ rfl, h 1 _ rfl, h 2 _ rfl, h 3 _ rfl, h 4 _ rfl, h 5 _ rfl⟩
theorem Prot.cellsNew (w : World) (p : Prot) (t : TypeId) : ∀ s : After (w.alloc (.cells #[.int .i64 p.id, .int .i64 p.against, .int .i64 p.by_, .int .i64 p.made, .int .i64 p.state, .int .i64 p.votes] t)), s.w'.cell? ⟨w.heap.size, 0, none⟩ = some (.int .i64 p.id) ∧ s.w'.cell? ⟨w.heap.size, 1, none⟩ = some (.int .i64 p.against) ∧ s.w'.cell? ⟨w.heap.size, 2, none⟩ = some (.int .i64 p.by_) ∧ s.w'.cell? ⟨w.heap.size, 3, none⟩ = some (.int .i64 p.made) ∧ s.w'.cell? ⟨w.heap.size, 4, none⟩ = some (.int .i64 p.state) ∧ s.w'.cell? ⟨w.heap.size, 5, none⟩ = some (.int .i64 p.votes) := by
  intro s
  obtain ⟨h0, h1, h2, h3, h4, h5⟩ := Prot.cells (rangeAt_below (Prot.rangeNew w p t) s.hb)
  simp only [Nat.zero_add] at h1 h2 h3 h4 h5
  exact ⟨h0, h1, h2, h3, h4, h5⟩
theorem Prot.cellsOld {w : World} {b off : Nat} {p : Prot} (h : w.rangeAt b off p.lst) : ∀ s : After w, s.w'.cell? ⟨b, off, none⟩ = some (.int .i64 p.id) ∧ s.w'.cell? ⟨b, off + 1, none⟩ = some (.int .i64 p.against) ∧ s.w'.cell? ⟨b, off + 2, none⟩ = some (.int .i64 p.by_) ∧ s.w'.cell? ⟨b, off + 3, none⟩ = some (.int .i64 p.made) ∧ s.w'.cell? ⟨b, off + 4, none⟩ = some (.int .i64 p.state) ∧ s.w'.cell? ⟨b, off + 5, none⟩ = some (.int .i64 p.votes) :=
  fun s => Prot.cells (rangeAt_below h s.hb)
theorem stProtLaws : St Try.prog 23 6 := ⟨⟨_, Try.underlying23⟩, by kernel_rfl⟩
theorem Prot.loadLaws {w : World} {ops : Array Oper} {rest : List Oper} {o : Oper} {a : Act} {Q : Exit → Act → World → Prop} (hgd : o.guard = none) (x : Operand) (ho : o.op = .load 23 x) (b off : Nat) (hx : a.eval x = .pointer (some ⟨b, off, none⟩)) (p : Prot) (hc : w.rangeAt b off p.lst)
    (h : wpList Try.prog ops Q rest (a.put o.dst (.agg #[.int .i64 p.id, .int .i64 p.against, .int .i64 p.by_, .int .i64 p.made, .int .i64 p.state, .int .i64 p.votes])) w) : wpList Try.prog ops Q (o :: rest) a w := stProtLaws.load hgd x ho b off hx p.lst rfl hc h
theorem Prot.qloadLaws {w : World} {ops : Array Oper} {rest : List Oper} {o : Oper} {a : Act} {Q : Act → Prop} (hw : Region.wanted o (yielded ops a.tmps) = true) (x : Operand) (ho : o.op = .load 23 x) (b off : Nat) (hx : a.eval x = .pointer (some ⟨b, off, none⟩)) (p : Prot) (hc : w.rangeAt b off p.lst)
    (h : wpQuiet Try.prog ops (Cl w) Q rest (a.put o.dst (.agg #[.int .i64 p.id, .int .i64 p.against, .int .i64 p.by_, .int .i64 p.made, .int .i64 p.state, .int .i64 p.votes]))) : wpQuiet Try.prog ops (Cl w) Q (o :: rest) a := stProtLaws.qload hw x ho b off hx p.lst rfl hc h
theorem stProtImpl : St Try.prog 25 6 := ⟨⟨_, Try.underlying25⟩, by kernel_rfl⟩
theorem Prot.loadImpl {w : World} {ops : Array Oper} {rest : List Oper} {o : Oper} {a : Act} {Q : Exit → Act → World → Prop} (hgd : o.guard = none) (x : Operand) (ho : o.op = .load 25 x) (b off : Nat) (hx : a.eval x = .pointer (some ⟨b, off, none⟩)) (p : Prot) (hc : w.rangeAt b off p.lst)
    (h : wpList Try.prog ops Q rest (a.put o.dst (.agg #[.int .i64 p.id, .int .i64 p.against, .int .i64 p.by_, .int .i64 p.made, .int .i64 p.state, .int .i64 p.votes])) w) : wpList Try.prog ops Q (o :: rest) a w := stProtImpl.load hgd x ho b off hx p.lst rfl hc h
theorem Prot.qloadImpl {w : World} {ops : Array Oper} {rest : List Oper} {o : Oper} {a : Act} {Q : Act → Prop} (hw : Region.wanted o (yielded ops a.tmps) = true) (x : Operand) (ho : o.op = .load 25 x) (b off : Nat) (hx : a.eval x = .pointer (some ⟨b, off, none⟩)) (p : Prot) (hc : w.rangeAt b off p.lst)
    (h : wpQuiet Try.prog ops (Cl w) Q rest (a.put o.dst (.agg #[.int .i64 p.id, .int .i64 p.against, .int .i64 p.by_, .int .i64 p.made, .int .i64 p.state, .int .i64 p.votes]))) : wpQuiet Try.prog ops (Cl w) Q (o :: rest) a := stProtImpl.qload hw x ho b off hx p.lst rfl hc h
theorem tyProt : Ty Try.prog 31 25 (.agg protZ.toArray) protZ 6 48 := ⟨Try.underlying31, by kernel_rfl, rfl, rfl, by decide, by decide⟩
theorem fitProt : ∃ fs, Fit Try.prog (.str fs protSh) (.inl 23) := ⟨_, Try.underlying23, by kernel_rfl, ⟨_, _, rfl, rfl, rfl, by kernel_rfl, Try.underlying3, ⟨_, _, rfl, rfl, rfl, by kernel_rfl, Try.underlying3, ⟨_, _, rfl, rfl, rfl, by kernel_rfl, Try.underlying3, ⟨_, _, rfl, rfl, rfl, by kernel_rfl, Try.underlying3, ⟨_, _, rfl, rfl, rfl, by kernel_rfl, Try.underlying3, ⟨_, _, rfl, rfl, rfl, by kernel_rfl, Try.underlying3, rfl⟩⟩⟩⟩⟩⟩⟩
theorem fitProtS : ∃ fs, Fit Try.prog (.sl 23 (.str fs protSh)) (.inl 28) := by
  obtain ⟨fs, h⟩ := fitProt
  exact ⟨fs, Try.underlying28, by kernel_rfl, by show 0 < protSh.size; decide, h⟩

def implOne (p : Prot) : Bool :=
  if !inB p.id 1 99 || !inB p.against 1 999 || !inB p.by_ 1 999 || p.against == p.by_ || !inB p.made 0 36000 || !inB p.votes (-5) 5 then false
  else if p.state == 0 || p.state == 4 then p.votes == 0
  else if p.state == 2 then decide (1 ≤ p.votes)
  else if p.state == 3 then decide (p.votes ≤ 0)
  else p.state == 1
def specOne (p : Prot) : Bool :=
  if !inB p.id 1 99 || !inB p.against 1 999 || !inB p.by_ 1 999 || p.against == p.by_ || !inB p.made 0 36000 || !inB p.state 0 4 then false
  else if p.state == 0 || p.state == 4 then p.votes == 0
  else if p.state == 2 then inB p.votes 1 5
  else if p.state == 3 then inB p.votes (-5) 0
  else inB p.votes (-5) 5
theorem one_eq (p : Prot) : implOne p = specOne p := by
  unfold implOne specOne inB
  grind

set_option maxHeartbeats 1000000 in
theorem isProtest_any (p : Prot) (w : World) :
    Calls Try.prog 18 #[p.val] w fun e w' => e = .returned (.bool (specOne p)) ∧ Below w.heap.size w w' := by
  obtain ⟨a, b, c, d, s, v⟩ := p
  show Calls Try.prog 18 #[.agg #[.int .i64 a, .int .i64 b, .int .i64 c, .int .i64 d, .int .i64 s, .int .i64 v]] w _
  go_enter Try.func18, Try.ntmps18
  go_wp2_with (first
    | (go_at_call 61; refine (inside_any _ _ _ _).mono ?_; rintro e w' ⟨rfl, rfl⟩)
    | (go_at_call 63; refine (isTime_any _ _).mono ?_; rintro e w' ⟨rfl, rfl⟩)
    | (go_at_call 62; refine (isRunnerNumber_any _ _).mono ?_; rintro e w' ⟨rfl, rfl⟩))
  all_goals go_ret
  all_goals refine ⟨ret_bool ?_, (Below.refl _ _).alloc (Nat.le_refl _) _⟩
  all_goals rw [← one_eq]
  all_goals (first | (simp [implOne, *]; done) | grind [implOne])

set_option maxHeartbeats 1000000 in
theorem l22One_any (p : Prot) (w : World) :
    Calls Try.prog 60 #[p.val] w fun e w' => e = .returned (.bool (specOne p)) ∧ Below w.heap.size w w' := by
  obtain ⟨a, b, c, d, s, v⟩ := p
  show Calls Try.prog 60 #[.agg #[.int .i64 a, .int .i64 b, .int .i64 c, .int .i64 d, .int .i64 s, .int .i64 v]] w _
  go_enter Try.func60, Try.ntmps60
  go_wp2_with (first
    | (go_at_call 68; refine (l1In_any _ _ _ _).mono ?_; rintro e w' ⟨rfl, rfl⟩)
    | (go_at_call 66; refine (l12Time_any _ _).mono ?_; rintro e w' ⟨rfl, rfl⟩))
  all_goals go_ret
  all_goals refine ⟨ret_bool ?_, (Below.refl _ _).alloc (Nat.le_refl _) _⟩
  all_goals (first | (simp [specOne, *]; done) | grind [specOne])

theorem specIsProtest_any (p : Prot) (w : World) :
    Calls Try.prog 16 #[p.val] w fun e w' => e = .returned (.bool (specOne p)) ∧ Below w.heap.size w w' := by
  obtain ⟨a, b, c, d, s, v⟩ := p
  show Calls Try.prog 16 #[.agg #[.int .i64 a, .int .i64 b, .int .i64 c, .int .i64 d, .int .i64 s, .int .i64 v]] w _
  go_enter Try.func16, Try.ntmps16
  go_wp2_with (go_at_call 60; refine (l22One_any ⟨a, b, c, d, s, v⟩ _).mono ?_; rintro e w' ⟨rfl, hb⟩)
  go_ret
  exact ⟨rfl, ((Below.refl _ _).alloc (Nat.le_refl _) _).trans (hb.mono (by simp))⟩

theorem isProtest_is (p : Prot) (r : Bool) (hr : specOne p = r) (w : World) :
    Calls Try.prog 18 #[p.val] w fun e w' => e = .returned (.bool r) ∧ Below w.heap.size w w' := by subst hr; exact isProtest_any p w
theorem l22One_is (p : Prot) (r : Bool) (hr : specOne p = r) (w : World) :
    Calls Try.prog 60 #[p.val] w fun e w' => e = .returned (.bool r) ∧ Below w.heap.size w w' := by subst hr; exact l22One_any p w
end Go.Proofs.Ytabihggfnofcbaa
