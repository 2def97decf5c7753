/- A passing: its cells, its inner slice, and the law's own copies and comparisons. No condition. -/
import Derived.Test.YtbeonigmcbipeaaIntS
import Derived.Test.YtbeonigmcbipeaaBase
namespace Go.Proofs.Ytbeonigmcbipeaa
open Go Go.RowKit

/-- What a passing means. -/
structure PK where
  runner : Int
  splits : List Int
/-- A passing in memory: what it means, and where its splits lie. -/
structure Pas where
  k : PK
  a : Option Addr
  n : Nat
  c : Nat
abbrev Pas.sv (p : Pas) : Value := .slice p.a p.n p.c
def Pas.lst (p : Pas) : List Value := [.int .i64 p.k.runner, .slice p.a p.n p.c]
theorem Pas.lst_len (p : Pas) : p.lst.length = 2 := rfl
abbrev Pas.val (p : Pas) : Value := .agg p.lst.toArray
theorem Pas.one (p : Pas) : ∀ u ∈ p.lst, u.oneCell' = true := by simp [Pas.lst, Value.oneCell']
/-- The splits of a passing read as they are meant. -/
def Pas.In (w : World) (p : Pas) : Prop := Sl (Flat ints) 1 w p.sv p.k.splits
theorem Pas.In.below {w w' : World} {p : Pas} (h : p.In w) (hb : Below w.heap.size w w') : p.In w' := Sl.below (Flat.keeps _) h hb
theorem Pas.In.len {w : World} {p : Pas} (h : p.In w) : p.n = p.k.splits.length := by
  obtain ⟨A, c, hv, _⟩ := h
  simp only [Value.slice.injEq] at hv
  exact hv.2.1
/-- A slice of passings. -/
def PasS (w : World) (v : Value) (xs : List Pas) : Prop := Sl (Flat Pas.lst) 2 w v xs ∧ ∀ p ∈ xs, p.In w
theorem PasS.below {w w' : World} {v : Value} {xs : List Pas} (h : PasS w v xs) (hb : Below w.heap.size w w') : PasS w' v xs := ⟨h.1.below (Flat.keeps _) hb, fun p hp => (h.2 p hp).below hb⟩
def Pas.ok (p : Pas) : Prop := I64 p.k.runner ∧ ∀ s ∈ p.k.splits, I64 s
def pasZ : List Value := [.int .i64 0, .slice none 0 0]
def pasSh : Sh := .cat 3 (.int .i64) (.cat 38 (.sl 3 (.int .i64)) .emp)
theorem ints_of_holds {w : World} {v : Value} (h : Holds w (.sl 3 (.int .i64)) [v]) : ∃ xs : List Int, Sl (Flat ints) 1 w v xs ∧ ∀ x ∈ xs, I64 x :=
  flat_of_holds (sh := .int .i64) (fun cs h => by obtain ⟨n, rfl, hw⟩ := h; exact ⟨n, rfl, i64_of_wf hw⟩) h
theorem pas_of_holds {w : World} {cs : List Value} (h : Holds w pasSh cs) : ∃ p : Pas, cs = p.lst ∧ p.In w ∧ p.ok := by
  obtain ⟨_, _, rfl, _, ⟨n0, rfl, w0⟩, _, _, rfl, _, h1, rfl⟩ := h
  have h1' := h1
  obtain ⟨A, n, c, rfl, _⟩ := h1
  obtain ⟨xs, hs, ho⟩ := ints_of_holds h1'
  exact ⟨⟨⟨n0, xs⟩, A, n, c⟩, rfl, hs, i64_of_wf w0, ho⟩
theorem Pas.rangeNew (w : World) (p : Pas) (t : TypeId) : (w.alloc (.cells #[.int .i64 p.k.runner, .slice p.a p.n p.c] t)).rangeAt w.heap.size 0 p.lst := rangeAt_new w p.lst t
theorem Pas.cells {w : World} {b off : Nat} {p : Pas} (h : w.rangeAt b off p.lst) : w.cell? ⟨b, off, none⟩ = some (.int .i64 p.k.runner) ∧ w.cell? ⟨b, off + 1, none⟩ = some (.slice p.a p.n p.c) :=
  ⟨h 0 _ rfl, h 1 _ rfl⟩
theorem Pas.cellsNew (w : World) (p : Pas) (t : TypeId) : ∀ s : After (w.alloc (.cells #[.int .i64 p.k.runner, .slice p.a p.n p.c] t)), s.w'.cell? ⟨w.heap.size, 0, none⟩ = some (.int .i64 p.k.runner) ∧ s.w'.cell? ⟨w.heap.size, 1, none⟩ = some (.slice p.a p.n p.c) := by
  intro s
  obtain ⟨h0, h1⟩ := Pas.cells (rangeAt_below (Pas.rangeNew w p t) s.hb)
  simp only [Nat.zero_add] at h1
  exact ⟨h0, h1⟩
theorem Pas.cellsOld {w : World} {b off : Nat} {p : Pas} (h : w.rangeAt b off p.lst) : ∀ s : After w, s.w'.cell? ⟨b, off, none⟩ = some (.int .i64 p.k.runner) ∧ s.w'.cell? ⟨b, off + 1, none⟩ = some (.slice p.a p.n p.c) :=
  fun s => Pas.cells (rangeAt_below h s.hb)
theorem stPasLaws : St Try.prog 53 2 := ⟨⟨_, Try.underlying53⟩, by kernel_rfl⟩
theorem stPasImpl : St Try.prog 49 2 := ⟨⟨_, Try.underlying49⟩, by kernel_rfl⟩
theorem Pas.loadLaws {w : World} {ops : Array Oper} {rest : List Oper} {o : Oper} {a : Act} {Q : Exit → Act → World → Prop} (hgd : o.guard = none) (x : Operand) (ho : o.op = .load 53 x) (b off : Nat) (hx : a.eval x = .pointer (some ⟨b, off, none⟩)) (p : Pas) (hc : w.rangeAt b off p.lst)
    (h : wpList Try.prog ops Q rest (a.put o.dst (.agg #[.int .i64 p.k.runner, .slice p.a p.n p.c])) w) : wpList Try.prog ops Q (o :: rest) a w := stPasLaws.load hgd x ho b off hx p.lst rfl hc h
theorem Pas.loadImpl {w : World} {ops : Array Oper} {rest : List Oper} {o : Oper} {a : Act} {Q : Exit → Act → World → Prop} (hgd : o.guard = none) (x : Operand) (ho : o.op = .load 49 x) (b off : Nat) (hx : a.eval x = .pointer (some ⟨b, off, none⟩)) (p : Pas) (hc : w.rangeAt b off p.lst)
    (h : wpList Try.prog ops Q rest (a.put o.dst (.agg #[.int .i64 p.k.runner, .slice p.a p.n p.c])) w) : wpList Try.prog ops Q (o :: rest) a w := stPasImpl.load hgd x ho b off hx p.lst rfl hc h
theorem Pas.qloadImpl {w : World} {ops : Array Oper} {rest : List Oper} {o : Oper} {a : Act} {Q : Act → Prop} (hw : Region.wanted o (yielded ops a.tmps) = true) (x : Operand) (ho : o.op = .load 49 x) (b off : Nat) (hx : a.eval x = .pointer (some ⟨b, off, none⟩)) (p : Pas) (hc : w.rangeAt b off p.lst)
    (h : wpQuiet Try.prog ops (Cl w) Q rest (a.put o.dst (.agg #[.int .i64 p.k.runner, .slice p.a p.n p.c]))) : wpQuiet Try.prog ops (Cl w) Q (o :: rest) a := stPasImpl.qload hw x ho b off hx p.lst rfl hc h
theorem tyPas : Ty Try.prog 25 49 (.agg pasZ.toArray) pasZ 2 32 := ⟨Try.underlying25, by kernel_rfl, rfl, rfl, by decide, by decide⟩
theorem fitPas : ∃ fs, Fit Try.prog (.str fs pasSh) (.inl 53) := ⟨_, Try.underlying53, by kernel_rfl, ⟨_, _, rfl, rfl, rfl, by kernel_rfl, Try.underlying3, ⟨_, _, rfl, rfl, rfl, by kernel_rfl, ⟨Try.underlying38, by kernel_rfl, by decide, Try.underlying3⟩, rfl⟩⟩⟩
theorem fitPasS : ∃ fs, Fit Try.prog (.sl 53 (.str fs pasSh)) (.inl 22) := by
  obtain ⟨fs, h⟩ := fitPas
  exact ⟨fs, Try.underlying22, by kernel_rfl, by show 0 < pasSh.size; decide, h⟩
/-- A raw slice argument of passings. -/
theorem pasS_of_holds {e : TypeId} {fs : Array Field} {w : World} {v : Value} (h : Holds w (.sl e (.str fs pasSh)) [v]) : ∃ xs : List Pas, PasS w v xs ∧ ∀ p ∈ xs, p.ok := by
  obtain ⟨xs, hs, ho⟩ := flat_of_holds (sh := .str fs pasSh) (enc := Pas.lst) (ok := fun p => p.In w ∧ p.ok) (fun cs h => pas_of_holds h) h
  exact ⟨xs, ⟨hs, fun p hp => (ho p hp).1⟩, fun p hp => (ho p hp).2⟩
end Go.Proofs.Ytbeonigmcbipeaa
