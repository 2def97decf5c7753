/- A heat: its cells, its two inner slices, and how a raw argument opens. No condition. -/
import Derived.Test.YtabgmbmaakglkaaIntS
import Derived.Test.YtabgmbmaakglkaaBase
import Derived.Test.YtabgmbmaakglkaaSpQ
namespace Go.Proofs.Ytabgmbmaakglkaa
open Go Go.RowKit

/-- A heat in memory: what it means, and where its slices lie. -/
structure Ht where
  k : HK
  a : Option Addr
  n : Nat
  c : Nat
  b : Option Addr
  m : Nat
  d : Nat
abbrev Ht.rv (p : Ht) : Value := .slice p.a p.n p.c
abbrev Ht.tv (p : Ht) : Value := .slice p.b p.m p.d
def Ht.lst (p : Ht) : List Value := [.slice p.a p.n p.c, .slice p.b p.m p.d]
theorem Ht.lst_len (p : Ht) : p.lst.length = 2 := rfl
abbrev Ht.val (p : Ht) : Value := .agg p.lst.toArray
theorem Ht.one (p : Ht) : ∀ u ∈ p.lst, u.oneCell' = true := by simp [Ht.lst, Value.oneCell']
/-- The slices of a heat read as they are meant. -/
def Ht.In (w : World) (p : Ht) : Prop := Sl (Flat ints) 1 w p.rv p.k.runners ∧ Sl (Flat ints) 1 w p.tv p.k.times
theorem Ht.In.below {w w' : World} {p : Ht} (h : p.In w) (hb : Below w.heap.size w w') : p.In w' := ⟨Sl.below (Flat.keeps _) h.1 hb, Sl.below (Flat.keeps _) h.2 hb⟩
theorem Sl.lenS {α : Type} {R : World → List Value → α → Prop} {sz : Nat} {w : World} {A : Option Addr} {n c : Nat} {xs : List α} (h : Sl R sz w (.slice A n c) xs) : n = xs.length := by
  obtain ⟨A, c, hv, _⟩ := h
  simp only [Value.slice.injEq] at hv
  exact hv.2.1
theorem Ht.In.len {w : World} {p : Ht} (h : p.In w) : p.n = p.k.runners.length ∧ p.m = p.k.times.length := ⟨Sl.lenS h.1, Sl.lenS h.2⟩
/-- A slice of heats. -/
def HtS (w : World) (v : Value) (xs : List Ht) : Prop := Sl (Flat Ht.lst) 2 w v xs ∧ ∀ p ∈ xs, p.In w
theorem HtS.below {w w' : World} {v : Value} {xs : List Ht} (h : HtS w v xs) (hb : Below w.heap.size w w') : HtS w' v xs := ⟨h.1.below (Flat.keeps _) hb, fun p hp => (h.2 p hp).below hb⟩
def HK.ok (k : HK) : Prop := (∀ x ∈ k.runners, I64 x) ∧ ∀ x ∈ k.times, I64 x
def htZ : List Value := [.slice none 0 0, .slice none 0 0]
def htSh : Sh := .cat 22 (.sl 3 (.int .i64)) (.cat 22 (.sl 3 (.int .i64)) .emp)
theorem ints_of_holds {w : World} {v : Value} (h : Holds w (.sl 3 (.int .i64)) [v]) : ∃ xs : List Int, Sl (Flat ints) 1 w v xs ∧ ∀ x ∈ xs, I64 x :=
  flat_of_holds (sh := .int .i64) (fun cs h => by obtain ⟨n, rfl, hw⟩ := h; exact ⟨n, rfl, i64_of_wf hw⟩) h
theorem ht_of_holds {w : World} {cs : List Value} (h : Holds w htSh cs) : ∃ p : Ht, cs = p.lst ∧ p.In w ∧ p.k.ok := by
  obtain ⟨_, _, rfl, _, h1, _, _, rfl, _, h2, rfl⟩ := h
  have h1' := h1
  have h2' := h2
  obtain ⟨A, n, c, rfl, _⟩ := h1
  obtain ⟨B, m, d, rfl, _⟩ := h2
  obtain ⟨xs, hs, ho⟩ := ints_of_holds h1'
  obtain ⟨ys, hs2, ho2⟩ := ints_of_holds h2'
  exact ⟨⟨⟨xs, ys⟩, A, n, c, B, m, d⟩, rfl, ⟨hs, hs2⟩, ho, ho2⟩
theorem Ht.rangeNew (w : World) (p : Ht) (t : TypeId) : (w.alloc (.cells #[.slice p.a p.n p.c, .slice p.b p.m p.d] t)).rangeAt w.heap.size 0 p.lst := rangeAt_new w p.lst t
theorem Ht.cells {w : World} {b off : Nat} {p : Ht} (h : w.rangeAt b off p.lst) : w.cell? ⟨b, off, none⟩ = some (.slice p.a p.n p.c) ∧ w.cell? ⟨b, off + 1, none⟩ = some (.slice p.b p.m p.d) :=
  ⟨h 0 _ rfl, h 1 _ rfl⟩
theorem Ht.cellsNew (w : World) (p : Ht) (t : TypeId) : ∀ s : After (w.alloc (.cells #[.slice p.a p.n p.c, .slice p.b p.m p.d] t)), s.w'.cell? ⟨w.heap.size, 0, none⟩ = some (.slice p.a p.n p.c) ∧ s.w'.cell? ⟨w.heap.size, 1, none⟩ = some (.slice p.b p.m p.d) := by
  intro s
  obtain ⟨h0, h1⟩ := Ht.cells (rangeAt_below (Ht.rangeNew w p t) s.hb)
  simp only [Nat.zero_add] at h1
  exact ⟨h0, h1⟩
theorem Ht.cellsOld {w : World} {b off : Nat} {p : Ht} (h : w.rangeAt b off p.lst) : ∀ s : After w, s.w'.cell? ⟨b, off, none⟩ = some (.slice p.a p.n p.c) ∧ s.w'.cell? ⟨b, off + 1, none⟩ = some (.slice p.b p.m p.d) :=
  fun s => Ht.cells (rangeAt_below h s.hb)
theorem stHtLaws : St Try.prog 24 2 := ⟨⟨_, Try.underlying24⟩, by kernel_rfl⟩
theorem stHtImpl : St Try.prog 28 2 := ⟨⟨_, Try.underlying28⟩, by kernel_rfl⟩
theorem Ht.loadLaws {w : World} {ops : Array Oper} {rest : List Oper} {o : Oper} {a : Act} {Q : Exit → Act → World → Prop} (hgd : o.guard = none) (x : Operand) (ho : o.op = .load 24 x) (b off : Nat) (hx : a.eval x = .pointer (some ⟨b, off, none⟩)) (p : Ht) (hc : w.rangeAt b off p.lst)
    (h : wpList Try.prog ops Q rest (a.put o.dst (.agg #[.slice p.a p.n p.c, .slice p.b p.m p.d])) w) : wpList Try.prog ops Q (o :: rest) a w := stHtLaws.load hgd x ho b off hx p.lst rfl hc h
theorem Ht.loadImpl {w : World} {ops : Array Oper} {rest : List Oper} {o : Oper} {a : Act} {Q : Exit → Act → World → Prop} (hgd : o.guard = none) (x : Operand) (ho : o.op = .load 28 x) (b off : Nat) (hx : a.eval x = .pointer (some ⟨b, off, none⟩)) (p : Ht) (hc : w.rangeAt b off p.lst)
    (h : wpList Try.prog ops Q rest (a.put o.dst (.agg #[.slice p.a p.n p.c, .slice p.b p.m p.d])) w) : wpList Try.prog ops Q (o :: rest) a w := stHtImpl.load hgd x ho b off hx p.lst rfl hc h
theorem Ht.qloadImpl {w : World} {ops : Array Oper} {rest : List Oper} {o : Oper} {a : Act} {Q : Act → Prop} (hw : Region.wanted o (yielded ops a.tmps) = true) (x : Operand) (ho : o.op = .load 28 x) (b off : Nat) (hx : a.eval x = .pointer (some ⟨b, off, none⟩)) (p : Ht) (hc : w.rangeAt b off p.lst)
    (h : wpQuiet Try.prog ops (Cl w) Q rest (a.put o.dst (.agg #[.slice p.a p.n p.c, .slice p.b p.m p.d]))) : wpQuiet Try.prog ops (Cl w) Q (o :: rest) a := stHtImpl.qload hw x ho b off hx p.lst rfl hc h
theorem tyHt : Ty Try.prog 40 28 (.agg htZ.toArray) htZ 2 48 := ⟨Try.underlying40, by kernel_rfl, rfl, rfl, by decide, by decide⟩
theorem fitHt : ∃ fs, Fit Try.prog (.str fs htSh) (.inl 24) := ⟨_, Try.underlying24, by kernel_rfl, ⟨_, _, rfl, rfl, rfl, by kernel_rfl, ⟨Try.underlying22, by kernel_rfl, by decide, Try.underlying3⟩, ⟨_, _, rfl, rfl, rfl, by kernel_rfl, ⟨Try.underlying22, by kernel_rfl, by decide, Try.underlying3⟩, rfl⟩⟩⟩
theorem fitHtS : ∃ fs, Fit Try.prog (.sl 24 (.str fs htSh)) (.inl 35) := by
  obtain ⟨fs, h⟩ := fitHt
  exact ⟨fs, Try.underlying35, by kernel_rfl, by show 0 < htSh.size; decide, h⟩
/-- A raw slice argument of heats. -/
theorem htS_of_holds {e : TypeId} {fs : Array Field} {w : World} {v : Value} (h : Holds w (.sl e (.str fs htSh)) [v]) : ∃ xs : List Ht, HtS w v xs ∧ ∀ p ∈ xs, p.k.ok := by
  obtain ⟨xs, hs, ho⟩ := flat_of_holds (sh := .str fs htSh) (enc := Ht.lst) (ok := fun p => p.In w ∧ p.k.ok) (fun cs h => ht_of_holds h) h
  exact ⟨xs, ⟨hs, fun p hp => (ho p hp).1⟩, fun p hp => (ho p hp).2⟩
end Go.Proofs.Ytabgmbmaakglkaa
