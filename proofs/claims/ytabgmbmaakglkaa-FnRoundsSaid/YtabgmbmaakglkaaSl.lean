/- Slices that read as lists; rows of the call's own, an element a group of cells; make, append, store on them. Plain; no condition. -/
import Derived.WalkKit
import Derived.WalkLawsBesides
import Derived.WalkSpells
import Derived.Deep.Draws
import Derived.Deep.MidRow
import Derived.Maps.AppendAt
import Derived.Laws.Rows
import Derived.BigQuiet
import Derived.Test.YtabgmbmaakglkaaLib
import Derived.Test.YtabgmbmaakglkaaOpen
namespace Go.Proofs.Ytabgmbmaakglkaa
open Go Go.RowKit

theorem rangeAt_below {w w' : World} {b o : Nat} {cs : List Value} (h : w.rangeAt b o cs) (hb : Below w.heap.size w w') : w'.rangeAt b o cs := by
  intro j u hu
  have h1 := h j u hu
  exact (hb.cell (p := ⟨b, o + j, none⟩) (block_lt_of_cell h1)).trans h1

theorem rangeAt_new (w : World) (cs : List Value) (t : TypeId) : (w.alloc (.cells cs.toArray t)).rangeAt w.heap.size 0 cs := by
  have := World.rangeAt_of_block (heap_alloc_new w (.cells cs.toArray t)) 0 cs.length
  simpa using this
theorem step_ {B : Nat} {a b c : World} (h : Below B a b) (hB : B ≤ a.heap.size) (k : Below b.heap.size b c) : Below B a c := h.trans (k.mono (Nat.le_trans hB h.size))

/-- A world behind w in which nothing old has turned. -/
structure After (w : World) where
  w' : World
  hb : Below w.heap.size w w'
instance After.some_ (w : World) : Nonempty (After w) := ⟨⟨w, Below.refl _ _⟩⟩
theorem After.keep {w : World} {p : Addr} {v : Value} (h : w.cell? p = some v) : ∀ s : After w, s.w'.cell? p = some v :=
  fun s => (s.hb.cell (block_lt_of_cell h)).trans h
theorem Calls.after {P : Program} {f : FuncId} {args : Array Value} {w : World} {v : Value} (s : After w)
    (h : Calls P f args s.w' fun e w' => e = .returned v ∧ Below s.w'.heap.size s.w' w') : Calls P f args s.w' fun e w'' => e = .returned v ∧ ∃ s' : After w, w'' = s'.w' :=
  h.mono fun _ w'' ⟨he, hb⟩ => ⟨he, ⟨w'', step_ s.hb (Nat.le_refl _) hb⟩, rfl⟩
theorem Calls.after_same {P : Program} {f : FuncId} {args : Array Value} {w : World} {v : Value} (s : After w)
    (h : Calls P f args s.w' fun e w' => e = .returned v ∧ s.w' = w') : Calls P f args s.w' fun e w'' => e = .returned v ∧ ∃ s' : After w, w'' = s'.w' :=
  h.mono fun _ _ ⟨he, hb⟩ => ⟨he, s, hb.symm⟩
/-- A region that draws its order, whose operations read and whose callees leave all that was there: one walk in the text's order. -/
theorem region_after {P : Program} {id : Nat} {Q : Exit → Act → World → Prop} {a : Act} {w : World} {l : List Oper} (hm : P.follows .mixedOrders = true) (hB : Region.lexB .any l.toArray = true)
    (h : wpQuiet P l.toArray (fun w' => ∃ s : After w, w' = s.w') (fun a' => ∀ s : After w, Q .normal a' s.w') l a) : (Code.region id l.toArray true).wp P Q a w :=
  wp_region_quiet (C := fun w' => ∃ s : After w, w' = s.w') hm hB ⟨⟨_, (Below.refl _ _).drew⟩, rfl⟩ (by
    simpa [forall_exists_index] using h)

def ints (n : Int) : List Value := [.int .i64 n]
/-- A slice: v reads as the list xs, each element's cells and what they mean by R. -/
def Sl {α : Type} (R : World → List Value → α → Prop) (sz : Nat) (w : World) (v : Value) (xs : List α) : Prop :=
  ∃ A c, v = .slice A xs.length c ∧ xs.length ≤ c ∧ c ≤ maxLen ∧
    (0 < xs.length → ∃ b off, A = some ⟨b, off, none⟩ ∧ ∀ k (h : k < xs.length), ∃ cs, cs.length = sz ∧ w.rangeAt b (off + k * sz) cs ∧ R w cs xs[k])

/-- What is read stays so while nothing old turns. -/
def Keeps {α : Type} (R : World → List Value → α → Prop) : Prop := ∀ w w' cs x, Below w.heap.size w w' → R w cs x → R w' cs x

/-- Flat elements: the cells tell all. -/
def Flat {α : Type} (enc : α → List Value) : World → List Value → α → Prop := fun _ cs x => cs = enc x
theorem Flat.keeps {α : Type} (enc : α → List Value) : Keeps (Flat enc) := fun _ _ _ _ _ h => h

theorem Sl.below {α : Type} {R : World → List Value → α → Prop} (hR : Keeps R) {sz : Nat} {w w' : World} {v : Value} {xs : List α} (h : Sl R sz w v xs) (hb : Below w.heap.size w w') : Sl R sz w' v xs := by
  obtain ⟨A, c, hv, hc, hm, h⟩ := h
  refine ⟨A, c, hv, hc, hm, fun hn => ?_⟩
  obtain ⟨b, off, hA, hk⟩ := h hn
  refine ⟨b, off, hA, fun k hk' => ?_⟩
  obtain ⟨cs, hl, h1, h2⟩ := hk k hk'
  exact ⟨cs, hl, rangeAt_below h1 hb, hR _ _ _ _ hb h2⟩

theorem Sl.len {α : Type} {R : World → List Value → α → Prop} {sz : Nat} {w : World} {v : Value} {xs : List α} (h : Sl R sz w v xs) : xs.length ≤ maxLen := by
  obtain ⟨A, c, hv, hc, hm, h⟩ := h
  omega

/-- What a raw slice argument holds, as a list. -/
theorem sl_of_holds {α : Type} {R : World → List Value → α → Prop} {e : TypeId} {sh : Sh} {w : World} {v : Value} (hone : ∀ cs, cs.length = sh.size → Holds w sh cs → ∃ x : α, R w cs x)
    (h : Holds w (.sl e sh) [v]) : ∃ xs : List α, Sl R sh.size w v xs := by
  obtain ⟨A, n, c, hv, hnc, hc, h⟩ := h
  obtain rfl : v = .slice A n c := by simpa using hv
  by_cases hn : 0 < n
  · obtain ⟨b, off, hA, hk⟩ := h hn
    obtain ⟨l, hl, hr⟩ := list_of_all (fun i x => ∃ cs, cs.length = sh.size ∧ w.rangeAt b (off + i * sh.size) cs ∧ R w cs x) n (fun i hi => by
      obtain ⟨cs, hlen, hcell, hh⟩ := hk i hi
      obtain ⟨x, hx⟩ := hone cs hlen hh
      exact ⟨x, cs, hlen, hcell, hx⟩)
    subst hl
    exact ⟨l, A, c, rfl, hnc, hc, fun _ => ⟨b, off, hA, hr⟩⟩
  · obtain rfl : n = 0 := by omega
    exact ⟨[], A, c, rfl, hnc, hc, fun h => absurd h (by simp)⟩

def I64 (n : Int) : Prop := -9223372036854775808 ≤ n ∧ n ≤ 9223372036854775807
theorem i64_of_wf {n : Int} (h : (Lit.int .i64 n).wf = true) : I64 n := by
  simpa [Lit.wf, IntKind.min, IntKind.max, IntKind.signed, IntKind.bits, I64] using h
/-- A raw slice argument of flat elements. -/
theorem flat_of_holds {α : Type} {enc : α → List Value} {ok : α → Prop} {e : TypeId} {sh : Sh} {w : World} {v : Value} (hone : ∀ cs, Holds w sh cs → ∃ x : α, cs = enc x ∧ ok x)
    (h : Holds w (.sl e sh) [v]) : ∃ xs : List α, Sl (Flat enc) sh.size w v xs ∧ ∀ x ∈ xs, ok x := by
  obtain ⟨xs, hs⟩ := sl_of_holds (R := fun _ cs x => cs = enc x ∧ ok x) (fun cs _ h => hone cs h) h
  obtain ⟨A, c, hv, hc, hm, hk⟩ := hs
  refine ⟨xs, ⟨A, c, hv, hc, hm, fun hn => ?_⟩, fun x hx => ?_⟩
  · obtain ⟨b, off, hA, h2⟩ := hk hn
    refine ⟨b, off, hA, fun k hk' => ?_⟩
    obtain ⟨cs, h3, h4, h5, _⟩ := h2 k hk'
    exact ⟨cs, h3, h4, h5⟩
  · obtain ⟨k, hk', rfl⟩ := List.getElem_of_mem hx
    obtain ⟨b, off, hA, h2⟩ := hk (by omega)
    obtain ⟨cs, h3, h4, h5, h6⟩ := h2 k hk'
    exact h6

/-- The form that a walk takes. -/
theorem Sl.open_ {α : Type} {R : World → List Value → α → Prop} {sz : Nat} {w : World} {v : Value} {xs : List α} (h : Sl R sz w v xs) :
    ∃ A c, v = .slice A xs.length c ∧ xs.length ≤ c ∧ c ≤ 9223372036854775807 ∧
      Hid (0 < xs.length → ∃ b off, A = some ⟨b, off, none⟩ ∧ ∀ k (h : k < xs.length), ∃ cs, cs.length = sz ∧ w.rangeAt b (off + k * sz) cs ∧ R w cs xs[k]) := by
  obtain ⟨A, c, hv, hc, hm, h⟩ := h
  exact ⟨A, c, hv, hc, by simpa [maxLen] using hm, h⟩
theorem flat_at {α : Type} {enc : α → List Value} {sz : Nat} {w : World} {A : Option Addr} {xs : List α}
    (h : Hid (0 < xs.length → ∃ b off, A = some ⟨b, off, none⟩ ∧ ∀ k (h : k < xs.length), ∃ cs, cs.length = sz ∧ w.rangeAt b (off + k * sz) cs ∧ Flat enc w cs xs[k])) (hn : 0 < xs.length) :
    ∃ b off, A = some ⟨b, off, none⟩ ∧ ∀ k (h : k < xs.length), w.rangeAt b (off + k * sz) (enc xs[k]) := by
  obtain ⟨b, off, hA, hk⟩ := h.out hn
  exact ⟨b, off, hA, fun k hk' => by obtain ⟨cs, _, h1, rfl⟩ := hk k hk'; exact h1⟩

/-! ### A list of groups, flattened -/
theorem flat_get (sz : Nat) : ∀ (ys : List (List Value)) (_ : ∀ y ∈ ys, y.length = sz) (k j : Nat) (h : k < ys.length), j < sz → ys.flatten[k * sz + j]? = ys[k][j]?
  | [], _, k, j, h, _ => absurd h (by simp)
  | y :: ys, hsz, 0, j, h, hj => by
    rw [List.flatten_cons, Nat.zero_mul, Nat.zero_add, List.getElem?_append_left (by rw [hsz y (by simp)]; exact hj)]
    rfl
  | y :: ys, hsz, k + 1, j, h, hj => by
    have hy := hsz y (by simp)
    rw [List.flatten_cons, List.getElem?_append_right (by rw [hy, Nat.add_mul]; omega), hy]
    have e : (k + 1) * sz + j - sz = k * sz + j := by rw [Nat.add_mul]; omega
    rw [e, flat_get sz ys (fun z hz => hsz z (by simp [hz])) k j (by simpa using h) hj]
    simp
theorem flat_len (sz : Nat) : ∀ (ys : List (List Value)) (_ : ∀ y ∈ ys, y.length = sz), ys.flatten.length = ys.length * sz
  | [], _ => by simp
  | y :: ys, h => by
    rw [List.flatten_cons, List.length_append, flat_len sz ys (fun z hz => h z (by simp [hz])), h y (by simp), List.length_cons, Nat.add_mul]; omega
theorem flat_set (sz : Nat) : ∀ (ys : List (List Value)) (_ : ∀ y ∈ ys, y.length = sz) (k j : Nat) (h : k < ys.length) (_ : j < sz) (u : Value), ys.flatten.set (k * sz + j) u = (ys.set k (ys[k].set j u)).flatten
  | [], _, k, j, h, _, _ => absurd h (by simp)
  | y :: ys, hsz, 0, j, h, hj, u => by
    have hy := hsz y (by simp)
    rw [List.flatten_cons, Nat.zero_mul, Nat.zero_add, List.set_append_left _ _ (by rw [hy]; exact hj)]
    rfl
  | y :: ys, hsz, k + 1, j, h, hj, u => by
    have hy := hsz y (by simp)
    rw [List.flatten_cons, List.set_append_right _ _ (by rw [hy, Nat.add_mul]; omega), hy]
    have e : (k + 1) * sz + j - sz = k * sz + j := by rw [Nat.add_mul]; omega
    rw [e, flat_set sz ys (fun z hz => hsz z (by simp [hz])) k j (by simpa using h) hj u]
    simp

/-! ### A row of the call's own, its elements groups of sz cells -/
def Row (base : Nat) (e : TypeId) (sz : Nat) (w : World) (v : Value) (ys : List (List Value)) : Prop :=
  (∀ y ∈ ys, y.length = sz) ∧ w.ownsRow base e sz v ys.length ys.flatten

section
variable {base : Nat} {e : TypeId} {sz : Nat} {w : World} {v : Value} {ys : List (List Value)}
theorem Row.nil (w : World) (base : Nat) (e : TypeId) (sz : Nat) : Row base e sz w (.slice none 0 0) [] := ⟨by simp, World.ownsRow_nil _ _ _ _⟩
theorem Row.form (h : Row base e sz w v ys) (hn : 0 < ys.length) : ∃ g cap, v = .slice (some ⟨g, 0, none⟩) ys.length cap ∧ base ≤ g ∧ g < w.heap.size ∧ ys.length ≤ cap := by
  rcases h.2.2 with ⟨rfl, hn'⟩ | ⟨g, cap, cur, rfl, hb, hg, hnc, _⟩
  · omega
  · refine ⟨g, cap, rfl, hb, ?_, hnc⟩
    rcases Nat.lt_or_ge g w.heap.size with h1 | h1
    · exact h1
    · rw [Array.getElem?_eq_none h1] at hg; cases hg
theorem Row.lt (h : Row base e sz w v ys) : ∀ k, v.ownBlock = some k → base ≤ k ∧ k < w.heap.size := h.2.lt
theorem Row.alloc (h : Row base e sz w v ys) (o : Obj) : Row base e sz (w.alloc o) v ys := ⟨h.1, h.2.alloc o⟩
theorem Row.drew (h : Row base e sz w v ys) : Row base e sz w.drew v ys := ⟨h.1, h.2.drew⟩
theorem Row.kept {w' : World} {row : Option Nat} (h : Row base e sz w v ys) (hg : w.grownBy w' row) (hne : v.ownBlock = none ∨ v.ownBlock ≠ row) : Row base e sz w' v ys := ⟨h.1, h.2.kept hg hne⟩
theorem Row.below {w' : World} (h : Row base e sz w v ys) (hb : Below w.heap.size w w') : Row base e sz w' v ys := by
  refine h.kept (row := none) ⟨hb.os, hb.tape, hb.output, hb.size, fun k hk _ => hb.block k hk⟩ ?_
  cases h' : v.ownBlock <;> simp
theorem Row.mono {base' : Nat} (h : Row base e sz w v ys) (hb : base' ≤ base) : Row base' e sz w v ys := by
  refine ⟨h.1, h.2.1, ?_⟩
  rcases h.2.2 with h2 | ⟨g, cap, cur, h1, h2, h3⟩
  · exact .inl h2
  · exact .inr ⟨g, cap, cur, h1, by omega, h3⟩
theorem Row.cell {g n cap : Nat} (h : Row base e sz w (.slice (some ⟨g, 0, none⟩) n cap) ys) {k j : Nat} (hk : k < ys.length) (hj : j < sz) : w.cell? ⟨g, k * sz + j, none⟩ = ys[k][j]? := by
  have hn : n = ys.length := by
    rcases h.2.2 with ⟨h1, _⟩ | ⟨g', cap', cur, h1, _⟩ <;> simp at h1
    exact h1.2.1
  subst hn
  have hkj : k * sz + j < ys.length * sz := by
    have : (k + 1) * sz ≤ ys.length * sz := Nat.mul_le_mul_right _ hk
    rw [Nat.add_mul] at this
    omega
  rw [h.2.cellAt _ hkj, flat_get sz ys h.1 k j hk hj]
theorem Row.frozen {g n cap : Nat} (h : Row base e sz w (.slice (some ⟨g, 0, none⟩) n cap) ys) (j : Nat) : w.frozen? ⟨g, j, none⟩ = false := by
  have hn : n = ys.length := by
    rcases h.2.2 with ⟨h1, _⟩ | ⟨g', cap', cur, h1, _⟩ <;> simp at h1
    exact h1.2.1
  subst hn
  exact h.2.frozenAt j
theorem Row.range {g n cap : Nat} (h : Row base e sz w (.slice (some ⟨g, 0, none⟩) n cap) ys) {k : Nat} (hk : k < ys.length) : w.rangeAt g (k * sz) ys[k] := by
  intro j u hu
  have hj : j < sz := by rw [← h.1 ys[k] (List.getElem_mem hk)]; exact (List.getElem?_eq_some_iff.1 hu).1
  rw [h.cell hk hj, hu]
/-- One cell written. -/
theorem Row.stored {g n cap : Nat} (h : Row base e sz w (.slice (some ⟨g, 0, none⟩) n cap) ys) {k j : Nat} (hk : k < ys.length) (hj : j < sz) (u : Value) :
    Row base e sz (w.setCell ⟨g, k * sz + j, none⟩ u) (.slice (some ⟨g, 0, none⟩) n cap) (ys.set k (ys[k].set j u)) ∧ w.grownBy (w.setCell ⟨g, k * sz + j, none⟩ u) (some g) := by
  have hn : n = ys.length := by
    rcases h.2.2 with ⟨h1, _⟩ | ⟨g', cap', cur, h1, _⟩ <;> simp at h1
    exact h1.2.1
  subst hn
  obtain ⟨h1, h2⟩ := h.2.stored (k * sz + j) u
  rw [flat_set sz ys h.1 k j hk hj u] at h1
  refine ⟨⟨fun y hy => ?_, by simpa using h1⟩, h2⟩
  rcases List.mem_or_eq_of_mem_set hy with hy | rfl
  · exact h.1 y hy
  · rw [List.length_set]; exact h.1 _ (List.getElem_mem hk)
/-- An element's leading cells written, from cell j on. -/
theorem Row.storeds {g n cap : Nat} : ∀ (us : List Value) (w : World) (ys : List (List Value)) (_ : Row base e sz w (.slice (some ⟨g, 0, none⟩) n cap) ys) (k j : Nat) (hk : k < ys.length) (_ : j + us.length ≤ sz),
    Row base e sz (w.setCells g (k * sz + j) us) (.slice (some ⟨g, 0, none⟩) n cap) (ys.set k (ys[k].take j ++ us ++ ys[k].drop (j + us.length))) ∧ w.grownBy (w.setCells g (k * sz + j) us) (some g)
  | [], w, ys, h, k, j, hk, hj => by
    refine ⟨?_, World.grownBy.refl _ _⟩
    have e1 : ys[k].take j ++ [] ++ ys[k].drop (j + ([] : List Value).length) = ys[k] := by simp
    rw [e1, List.set_getElem_self]
    exact h
  | u :: us, w, ys, h, k, j, hk, hj => by
    simp only [List.length_cons] at hj
    obtain ⟨h1, h2⟩ := h.stored hk (j := j) (by omega) u
    have hkl : k < (ys.set k (ys[k].set j u)).length := by simpa using hk
    obtain ⟨h3, h4⟩ := Row.storeds us _ _ h1 k (j + 1) hkl (by omega)
    have hlen : ys[k].length = sz := h.1 _ (List.getElem_mem hk)
    refine ⟨?_, ⟨h4.os.trans h2.os, h4.tape.trans h2.tape, h4.output.trans h2.output, Nat.le_trans h2.size h4.size, fun i hi hne => (h4.block i (Nat.lt_of_lt_of_le hi h2.size) hne).trans (h2.block i hi hne)⟩⟩
    have e1 : (ys.set k (ys[k].set j u)).set k ((ys.set k (ys[k].set j u))[k].take (j + 1) ++ us ++ (ys.set k (ys[k].set j u))[k].drop (j + 1 + us.length)) = ys.set k (ys[k].take j ++ u :: us ++ ys[k].drop (j + (u :: us).length)) := by
      simp only [List.getElem_set_self, List.set_set]
      congr 1
      rw [List.take_add_one, List.take_set_of_le (by omega), List.drop_set_of_lt (by omega)]
      simp only [List.length_cons]
      have : (ys[k].set j u)[j]? = some u := by rw [List.getElem?_set_self (by omega)]
      rw [this]
      have e2 : j + 1 + us.length = j + (us.length + 1) := by omega
      rw [e2]
      simp
    rw [e1] at h3
    exact h3
theorem Row.put {g n cap : Nat} (h : Row base e sz w (.slice (some ⟨g, 0, none⟩) n cap) ys) {k : Nat} (hk : k < ys.length) (us : List Value) (hu : us.length = sz) :
    Row base e sz (w.setCells g (k * sz) us) (.slice (some ⟨g, 0, none⟩) n cap) (ys.set k us) ∧ w.grownBy (w.setCells g (k * sz) us) (some g) := by
  have := Row.storeds us w ys h k 0 hk (by omega)
  have hlen : ys[k].length = sz := h.1 _ (List.getElem_mem hk)
  have e1 : ys[k].drop us.length = [] := List.drop_eq_nil_of_le (by omega)
  simpa [e1] using this
theorem Row.there {g n cap : Nat} (h : Row base e sz w (.slice (some ⟨g, 0, none⟩) n cap) ys) {k : Nat} (hk : k < ys.length) : w.there g (k * sz) sz := by
  intro j hj
  refine ⟨?_, h.frozen _⟩
  rw [h.cell hk hj]
  have hlen : ys[k].length = sz := h.1 _ (List.getElem_mem hk)
  rw [List.getElem?_eq_getElem (by omega)]
  rfl

/-- A row of the call's own reads as the list. -/
theorem Sl.of_row {α : Type} {R : World → List Value → α → Prop} {xs : List α} (h : Row base e sz w v ys) (hl : ys.length = xs.length) (hR : ∀ k (h : k < ys.length) (h' : k < xs.length), R w ys[k] xs[k]) : Sl R sz w v xs := by
  by_cases hn : 0 < ys.length
  · obtain ⟨g, cap, rfl, hb, hg, hc⟩ := h.form hn
    have hm : cap ≤ maxLen := by
      rcases h.2.2 with ⟨h1, _⟩ | ⟨g', cap', cur, h1, _, _, _, hm, _⟩ <;> simp at h1
      omega
    refine ⟨_, cap, by rw [hl], by omega, hm, fun _ => ⟨g, 0, rfl, fun k hk => ⟨ys[k], h.1 _ (List.getElem_mem _), ?_, hR k (by omega) hk⟩⟩⟩
    rw [Nat.zero_add]
    exact h.range (by omega)
  · have h0 : ys.length = 0 := by omega
    rcases h.2.2 with ⟨rfl, hn⟩ | ⟨g, cap, cur, rfl, _, hg, hnc, hcm, hcs, htake⟩
    · exact ⟨none, 0, by rw [← hl, h0], by omega, Nat.zero_le _, fun h => absurd h (by omega)⟩
    · exact ⟨_, cap, by rw [hl], by omega, hcm, fun h => absurd h (by omega)⟩
theorem Sl.of_flat {α : Type} {enc : α → List Value} {xs : List α} (h : Row base e sz w v (xs.map enc)) : Sl (Flat enc) sz w v xs :=
  Sl.of_row h (by simp) fun k h1 h2 => by simp [Flat]
end

/-! ### An element type's facts, and the operations -/
structure Ty (P : Program) (t e : TypeId) (zv : Value) (z : List Value) (sz bytes : Nat) : Prop where
  ht : P.underlying t = some (.slice e)
  hi : (P.info? e).map (fun i => (i.zero, i.size, i.bytes)) = some (some zv, sz, bytes)
  hz : zv.cells = z.toArray
  hzl : z.length = sz
  pos : 0 < sz
  small : bytes ≤ 65536

section
variable {P : Program} {t e : TypeId} {zv : Value} {z : List Value} {sz bytes : Nat}

theorem madeCells_flat (z : List Value) (n : Nat) (hz : 0 < z.length) : (madeCells z.toArray (n * z.length)).toList = (List.replicate n z).flatten := by
  apply List.ext_getElem?
  intro i
  by_cases hi : i < n * z.length
  · have hk : i / z.length < n := Nat.div_lt_of_lt_mul (by rw [Nat.mul_comm]; exact hi)
    have hj : i % z.length < z.length := Nat.mod_lt _ hz
    have e1 : i = i / z.length * z.length + i % z.length := by rw [Nat.mul_comm]; exact (Nat.div_add_mod _ _).symm
    have h2 := flat_get z.length (List.replicate n z) (by intro y hy; rw [(List.mem_replicate.1 hy).2]) (i / z.length) (i % z.length) (by simpa using hk) hj
    rw [← e1] at h2
    rw [h2]
    simp [madeCells, hi, List.getElem_replicate, hj]
  · rw [List.getElem?_eq_none (by simp [madeCells]; omega), List.getElem?_eq_none (by rw [flat_len z.length _ (by intro y hy; rw [(List.mem_replicate.1 hy).2])]; simp; omega)]

/-- make([]T, n). -/
theorem Ty.make (T : Ty P t e zv z sz bytes) {w : World} {ops : Array Oper} {rest : List Oper} {o : Oper} {a : Act} {Q : Exit → Act → World → Prop} (hg : o.guard = none) (l c : Operand) (hop : o.op = Op.makeSlice t l c)
    (base : Nat) (n : Nat) (L C : Int) (hl : a.eval l = .int .i64 L) (hc : a.eval c = .int .i64 C) (hL : L = (n : Int)) (hC : C = (n : Int)) (hn : n ≤ 2147483648) (hb : base ≤ w.heap.size)
    (hK : ∀ w', Row base e sz w' (.slice (some ⟨w.heap.size, 0, none⟩) n n) (List.replicate n z) → Below w.heap.size w w' → w.heap.size < w'.heap.size → wpList P ops Q rest (a.put o.dst (.slice (some ⟨w.heap.size, 0, none⟩) n n)) w') :
    wpList P ops Q (o :: rest) a w := by
  obtain ⟨i, h2, h3, h4, h5⟩ := info_parts T.hi
  have hsm : i.bytes * n ≤ 65536 * 2147483648 := Nat.mul_le_mul (by rw [h5]; exact T.small) hn
  refine wpList_make_full w hg l c t hop base e i zv sz T.ht h2 h3 h4 .i64 .i64 L C n hl hc hL hC (by omega) (by unfold maxLen; omega) hb fun w' hown hgr => ?_
  have e1 : (madeCells zv.cells (n * sz)).toList = (List.replicate n z).flatten := by
    rw [T.hz, ← T.hzl]; exact madeCells_flat z n (by rw [T.hzl]; exact T.pos)
  rw [e1] at hown
  have hr : Row base e sz w' (.slice (some ⟨w.heap.size, 0, none⟩) n n) (List.replicate n z) := ⟨by intro y hy; rw [(List.mem_replicate.1 hy).2, T.hzl], by simpa using hown⟩
  refine hK w' hr ⟨hgr.os, hgr.tape, hgr.output, hgr.size, fun k hk => hgr.block k hk (by simp)⟩ ?_
  rcases hown.2 with ⟨h1, _⟩ | ⟨g', cap', cur, h1, _, hh, _⟩
  · simp at h1
  · simp only [Value.slice.injEq, Option.some.injEq, Addr.mk.injEq, and_true] at h1
    rw [h1.1]
    rcases Nat.lt_or_ge g' w'.heap.size with h6 | h6
    · exact h6
    · rw [Array.getElem?_eq_none h6] at hh; cases hh

/-- The source of an append: nothing, or groups that lie in memory. -/
def Src (w : World) (sz : Nat) (A : Option Addr) (m : Nat) (news : List (List Value)) : Prop :=
  news.length = m ∧ (∀ y ∈ news, y.length = sz ∧ ∀ u ∈ y, u.oneCell' = true) ∧ (0 < m → ∃ b off, A = some ⟨b, off, none⟩ ∧ ∀ k (h : k < news.length), w.rangeAt b (off + k * sz) news[k])

theorem append_nil_run (T : Ty P t e zv z sz bytes) {w : World} {base : Nat} {v : Value} {ys : List (List Value)} (hown : Row base e sz w v ys) (ty : TypeId) (A : Option Addr) (c : Nat) :
    ∃ v', (Builtin.append_ #[t, t] ty #[v, .slice A 0 c]).run P w = .ok v' w ∧ v' = v := by
  obtain ⟨i, h2, h3, h4, h5⟩ := info_parts T.hi
  refine ⟨v, ?_, rfl⟩
  rcases hown.2.2 with ⟨rfl, h0⟩ | ⟨g, cap, cur, rfl, _, _, hnc, _⟩
  · cases A <;> simp [Builtin.append_, run_underlying T.ht, sizeOf, typeInfo, h2, Builtin.lenOf, Builtin.firstCells, loadCells, loadCellsFrom]
  · cases A <;> simp [Builtin.append_, run_underlying T.ht, sizeOf, typeInfo, h2, Builtin.lenOf, Builtin.firstCells, hnc, storeCells, loadCells, loadCellsFrom]

theorem append_run (T : Ty P t e zv z sz bytes) {w : World} {base : Nat} {v : Value} {ys : List (List Value)} (hown : Row base e sz w v ys) (ty : TypeId) (A : Option Addr) (m c : Nat) (news : List (List Value)) (hs : Src w sz A m news)
    (hn : ys.length + m ≤ 2147483648) (hb : base ≤ w.heap.size) :
    ∃ v' w', (Builtin.append_ #[t, t] ty #[v, .slice A m c]).run P w = .ok v' w' ∧ Row base e sz w' v' (ys ++ news) ∧ w.grownBy w' v.ownBlock ∧ (v'.ownBlock = v.ownBlock ∨ v'.ownBlock = some w.heap.size) := by
  obtain ⟨hl, hy, hat⟩ := hs
  by_cases h0 : 0 < m
  · obtain ⟨b, off, rfl, hk⟩ := hat h0
    obtain ⟨i, h2, h3, h4, h5⟩ := info_parts T.hi
    have hfl := flat_len sz news (fun y h => (hy y h).1)
    have hsm : (ys.length + m) * bytes ≤ 2147483648 * 65536 := Nat.mul_le_mul hn T.small
    obtain ⟨v', w', r1, r2, r3, _, r5⟩ := run_append_own_at (P := P) w base t ty e i zv sz bytes T.ht h2 h3 h4 h5 (by rw [T.hz]; simpa using T.hzl) T.pos v ys.length ys.flatten hown.2 ⟨b, off, none⟩ m c news.flatten (by rw [hfl, hl])
      (fun j u hu => by
        have hj : j < m * sz := by rw [← hl, ← hfl]; exact (List.getElem?_eq_some_iff.1 hu).1
        have hkk : j / sz < news.length := by rw [hl]; exact Nat.div_lt_of_lt_mul (by rw [Nat.mul_comm]; exact hj)
        have hjj : j % sz < sz := Nat.mod_lt _ T.pos
        have e1 : j = j / sz * sz + j % sz := by rw [Nat.mul_comm]; exact (Nat.div_add_mod _ _).symm
        rw [e1, flat_get sz news (fun y h => (hy y h).1) _ _ hkk hjj] at hu
        have := hk (j / sz) hkk (j % sz) u hu
        rw [Addr.add_mid]
        rw [show off + j = off + j / sz * sz + j % sz from by omega]
        exact this)
      (fun u hu => by
        obtain ⟨y, hy1, hy2⟩ := List.mem_flatten.1 hu
        exact (hy y hy1).2 u hy2)
      (by unfold maxLen; omega) (by omega) hb
    refine ⟨v', w', r1, ⟨fun y h => ?_, ?_⟩, r3, r5⟩
    · rcases List.mem_append.1 h with h | h
      · exact hown.1 y h
      · exact (hy y h).1
    · rw [List.length_append, List.flatten_append, hl]; exact r2
  · obtain rfl : m = 0 := by omega
    obtain rfl := List.eq_nil_of_length_eq_zero hl
    obtain ⟨v', hr, rfl⟩ := append_nil_run T hown ty A c
    exact ⟨v', w, hr, by simpa using hown, World.grownBy.refl _ _, .inl rfl⟩

/-- append(s, xs...) onto a row of the call's own. -/
theorem Ty.append (T : Ty P t e zv z sz bytes) {w : World} {ops : Array Oper} {rest : List Oper} {o : Oper} {a : Act} {Q : Exit → Act → World → Prop} (hgd : o.guard = none) (s x : Operand)
    (ho : o.op = .call { callee := .builtin .append, args := #[s, x], argTypes := #[t, t] })
    (base : Nat) (v : Value) (ys : List (List Value)) (hs : a.eval s = v) (hown : Row base e sz w v ys) (A : Option Addr) (m c : Nat) (news : List (List Value)) (hx : a.eval x = .slice A m c) (hsrc : Src w sz A m news)
    (hn : ys.length + m ≤ 2147483648) (hb : base ≤ w.heap.size)
    (h : ∀ v' w', Row base e sz w' v' (ys ++ news) → w.grownBy w' v.ownBlock → (v'.ownBlock = v.ownBlock ∨ v'.ownBlock = some w.heap.size) → wpList P ops Q rest (a.put o.dst v') w') : wpList P ops Q (o :: rest) a w := by
  refine wpList_plain hgd fun K hK => ?_
  obtain ⟨v', w', hrun, h2, h3, h4⟩ := append_run T hown o.type A m c news hsrc hn hb
  unfold Oper.wp execOp
  simp only [ho, resolve, invoke, builtin, Sem.run_bind, Sem.run_pure, Result.andThen_ok, List.map_toArray, List.map_cons, List.map_nil, hs, hx, hrun]
  exact hK _ _ (h v' w' h2 h3 h4)

/-- A struct's facts, and its load. -/
structure St (P : Program) (t : TypeId) (sz : Nat) : Prop where
  hu : ∃ fs, P.underlying t = some (.struct fs)
  hi : (P.info? t).map (·.size) = some sz
theorem St.load {t : TypeId} {sz : Nat} (T : St P t sz) {w : World} {ops : Array Oper} {rest : List Oper} {o : Oper} {a : Act} {Q : Exit → Act → World → Prop} (hgd : o.guard = none) (x : Operand) (ho : o.op = .load t x)
    (b off : Nat) (hx : a.eval x = .pointer (some ⟨b, off, none⟩)) (cs : List Value) (hl : cs.length = sz) (hc : w.rangeAt b off cs)
    (h : wpList P ops Q rest (a.put o.dst (.agg cs.toArray)) w) : wpList P ops Q (o :: rest) a w := by
  obtain ⟨fs, hu⟩ := T.hu
  exact wpList_load_mid hgd t x ho b off hx cs _ hc hu rfl (by rw [T.hi, hl]) h

/-- The class of worlds of such a region. -/
abbrev Cl (w : World) : World → Prop := fun w' => ∃ s : After w, w' = s.w'
theorem St.qload {t : TypeId} {sz : Nat} (T : St P t sz) {w : World} {ops : Array Oper} {rest : List Oper} {o : Oper} {a : Act} {Q : Act → Prop} (hw : Region.wanted o (yielded ops a.tmps) = true) (x : Operand) (ho : o.op = .load t x)
    (b off : Nat) (hx : a.eval x = .pointer (some ⟨b, off, none⟩)) (cs : List Value) (hl : cs.length = sz) (hc : w.rangeAt b off cs)
    (h : wpQuiet P ops (Cl w) Q rest (a.put o.dst (.agg cs.toArray))) : wpQuiet P ops (Cl w) Q (o :: rest) a := by
  obtain ⟨fs, hu⟩ := T.hu
  refine BigFrame.wpQuiet_want hw fun K hK => ⟨.agg cs.toArray, ?_, hK _ h⟩
  rintro _ ⟨s, rfl⟩
  have := run_loadAt_mid (P := P) s.w' b off t cs _ (rangeAt_below hc s.hb) hu rfl (by rw [T.hi, hl])
  unfold Oper.quietAt execOp
  simp only [ho, hx, this, Sem.run_bind, Sem.run_pure, Result.andThen_ok]
  exact ⟨rfl, rfl⟩

theorem Row.none_len {base : Nat} {e : TypeId} {sz : Nat} {w : World} {A : Option Addr} {n c : Nat} {ys : List (List Value)} (h : Row base e sz w (.slice A n c) ys) : n = ys.length := by
  rcases h.2.2 with ⟨h1, h2⟩ | ⟨g', cap', cur, h1, _⟩ <;> simp at h1
  · omega
  · exact h1.2.1
theorem Row.set_eq {base : Nat} {e : TypeId} {sz : Nat} {w : World} {v : Value} {ys : List (List Value)} {j : Nat} {l l' : List Value} (h : Row base e sz w v (ys.set j l)) (he : l = l') : Row base e sz w v (ys.set j l') := he ▸ h
/-- xs[k].f = an int, xs a row of the call's own. -/
theorem put1_ {k0 : IntKind} {w : World} {ops : Array Oper} {rest : List Oper} {o : Oper} {a : Act} {Q : Exit → Act → World → Prop} (hgd : o.guard = none) (ti : TypeId) (x y : Operand) (ho : o.op = .store ti x y)
    (hti : (P.info? ti).map (·.size) = some 1) (base g n cap k j off : Nat) (ys : List (List Value)) (u : Int) (hown : Row base e sz w (.slice (some ⟨g, 0, none⟩) n cap) ys) (hk : k < ys.length) (hj : j < sz) (hx : a.eval x = .pointer (some ⟨g, off, none⟩)) (hoff : off = k * sz + j) (hy : a.eval y = .int k0 u)
    (h : ∀ w', Row base e sz w' (.slice (some ⟨g, 0, none⟩) n cap) (ys.set k (ys[k].set j (.int k0 u))) → w.grownBy w' (some g) → wpList P ops Q rest (a.put o.dst undef) w') : wpList P ops Q (o :: rest) a w := by
  subst hoff
  obtain ⟨r1, r2⟩ := hown.stored hk hj (.int k0 u)
  refine wpList_plain hgd fun K hK => ?_
  have hlen : ys[k].length = sz := hown.1 _ (List.getElem_mem hk)
  have hc := hown.cell hk hj
  rw [List.getElem?_eq_getElem (by omega)] at hc
  have hfz := hown.frozen (k * sz + j)
  have hrun : (Instr.storeAt ti (.pointer (some ⟨g, k * sz + j, none⟩)) (.int k0 u)).run P w = .ok () (w.setCell ⟨g, k * sz + j, none⟩ (.int k0 u)) := by
    cases hq : P.info? ti with
    | none => simp [hq] at hti
    | some i =>
      have hs : i.size = 1 := by simpa [hq] using hti
      simp [Instr.storeAt, Instr.sureAddr, storeVar, sizeOf, typeInfo, hq, Value.cells, hs, storeCells, go_sem, hc, hfz, Addr.add]
  unfold Oper.wp execOp
  simp only [ho, hx, hy, hrun, Sem.run_bind, Sem.run_pure, Result.andThen_ok]
  exact hK _ _ (h _ r1 r2)
theorem grown_trans {w w' w'' : World} {g : Option Nat} (h2 : w.grownBy w' g) (h4 : w'.grownBy w'' g) : w.grownBy w'' g :=
  ⟨h4.os.trans h2.os, h4.tape.trans h2.tape, h4.output.trans h2.output, Nat.le_trans h2.size h4.size, fun i hi hne => (h4.block i (Nat.lt_of_lt_of_le hi h2.size) hne).trans (h2.block i hi hne)⟩

/-- The first j groups turned into f. -/
def turned (f : Nat → List Value) (ys : List (List Value)) (j : Nat) : List (List Value) := (List.range j).map f ++ ys.drop j
theorem turned_zero (f : Nat → List Value) (ys : List (List Value)) : turned f ys 0 = ys := by simp [turned]
theorem turned_len {f : Nat → List Value} {ys : List (List Value)} {j : Nat} (h : j ≤ ys.length) : (turned f ys j).length = ys.length := by simp [turned]; omega
theorem turned_all (f : Nat → List Value) (ys : List (List Value)) : turned f ys ys.length = (List.range ys.length).map f := by simp [turned]
theorem turned_set (f : Nat → List Value) (ys : List (List Value)) (j : Nat) (h : j < ys.length) : (turned f ys j).set j (f j) = turned f ys (j + 1) := by
  unfold turned
  rw [List.set_append_right _ _ (by simp), List.range_succ, List.map_append, List.drop_eq_getElem_cons h]
  simp only [List.length_map, List.length_range, Nat.sub_self, List.set_cons_zero, List.map_cons, List.map_nil, List.append_assoc, List.cons_append, List.nil_append]

/-- xs[k] = a whole struct, xs a row of the call's own. -/
theorem Ty.store (T : Ty P t e zv z sz bytes) {w : World} {ops : Array Oper} {rest : List Oper} {o : Oper} {a : Act} {Q : Exit → Act → World → Prop} (hgd : o.guard = none) (x y : Operand) (ho : o.op = .store e x y)
    (base g n cap k off : Nat) (ys : List (List Value)) (us : List Value) (hown : Row base e sz w (.slice (some ⟨g, 0, none⟩) n cap) ys) (hk : k < ys.length) (hx : a.eval x = .pointer (some ⟨g, off, none⟩)) (hoff : off = k * sz) (hy : a.eval y = .agg us.toArray)
    (hu : us.length = sz) (h1 : ∀ u ∈ us, u.oneCell' = true)
    (h : ∀ w', Row base e sz w' (.slice (some ⟨g, 0, none⟩) n cap) (ys.set k us) → w.grownBy w' (some g) → wpList P ops Q rest (a.put o.dst undef) w') : wpList P ops Q (o :: rest) a w := by
  subst hoff
  obtain ⟨i, h2, h3, h4, h5⟩ := info_parts T.hi
  obtain ⟨r1, r2⟩ := hown.put hk us hu
  exact wpList_store_mid hgd e x y ho g (k * sz) us.toArray hx hy (by simpa [hu] using hown.there hk) (by simp [h2, h4, hu]) (all_oneCell_toArray h1) (h _ r1 r2)
end

/-- The first k copied. -/
def mixed {α : Type} (enc : α → List Value) (z : List Value) (xs : List α) (k : Nat) : List (List Value) := (xs.take k).map enc ++ List.replicate (xs.length - k) z
theorem mixed_len {α : Type} {enc : α → List Value} {z : List Value} {xs : List α} {k : Nat} (h : k ≤ xs.length) : (mixed enc z xs k).length = xs.length := by simp [mixed]; omega
theorem mixed_zero {α : Type} (enc : α → List Value) (z : List Value) (xs : List α) : mixed enc z xs 0 = List.replicate xs.length z := by simp [mixed]
theorem mixed_all {α : Type} (enc : α → List Value) (z : List Value) (xs : List α) : mixed enc z xs xs.length = xs.map enc := by simp [mixed]
theorem mixed_set {α : Type} (enc : α → List Value) (z : List Value) (xs : List α) (k : Nat) (h : k < xs.length) : (mixed enc z xs k).set k (enc xs[k]) = mixed enc z xs (k + 1) := by
  unfold mixed
  rw [List.take_succ_eq_append_getElem h, List.set_append_right _ _ (by simp; omega)]
  have e : xs.length - k = (xs.length - (k + 1)) + 1 := by omega
  rw [e, List.replicate_succ]
  simp only [List.map_append, List.map_cons, List.map_nil, List.append_assoc, List.length_map, List.length_take, Nat.min_eq_left (Nat.le_of_lt h), Nat.sub_self, List.set_cons_zero, List.cons_append, List.nil_append]

/-- A literal of the call's own: its block is the world's newest. -/
theorem Row.lit (w : World) (e : TypeId) (sz : Nat) (ys : List (List Value)) (hy : ∀ y ∈ ys, y.length = sz) (hm : ys.length ≤ maxLen) {base : Nat} (hb : base ≤ w.heap.size) (cs : Array Value) (hcs : cs = ys.flatten.toArray) :
    Row base e sz (w.alloc (.cells cs e)) (.slice (some ⟨w.heap.size, 0, none⟩) ys.length ys.length) ys := by
  subst hcs
  refine ⟨hy, ?_⟩
  have := World.ownsRow_lit (base := base) (e := e) (size := sz) w ys.flatten.toArray ys.length hb hm (by simpa using flat_len sz ys hy)
  simpa using this
theorem Row.lit_nil (w : World) (e : TypeId) (sz : Nat) {base : Nat} (hb : base ≤ w.heap.size) : Row base e sz (w.alloc (.cells #[] e)) (.slice (some ⟨w.heap.size, 0, none⟩) 0 0) [] :=
  Row.lit w e sz [] (by simp) (Nat.zero_le _) hb #[] rfl
/-- The literal of one element that an append takes. -/
theorem Src.one (w : World) (e : TypeId) (cs : List Value) (h1 : ∀ u ∈ cs, u.oneCell' = true) : Src (w.alloc (.cells cs.toArray e)) cs.length (some ⟨w.heap.size, 0, none⟩) 1 [cs] := by
  refine ⟨rfl, fun y hy => ?_, fun _ => ⟨_, 0, rfl, fun k hk => ?_⟩⟩
  · obtain rfl : y = cs := by simpa using hy
    exact ⟨rfl, h1⟩
  · obtain rfl : k = 0 := by simpa using hk
    simpa using rangeAt_new w cs e
/-- A row that reads as a list is what an append takes. -/
theorem Src.of_sl {α : Type} {enc : α → List Value} {sz : Nat} {w : World} {A : Option Addr} {n c : Nat} {xs : List α} (h : Sl (Flat enc) sz w (.slice A n c) xs) (hl : ∀ x, (enc x).length = sz) (h1 : ∀ x, ∀ u ∈ enc x, u.oneCell' = true) :
    Src w sz A n (xs.map enc) := by
  obtain ⟨A', c', hv, hc, hm, hk⟩ := h
  simp only [Value.slice.injEq] at hv
  obtain ⟨rfl, rfl, rfl⟩ := hv
  refine ⟨by simp, fun y hy => ?_, fun hn => ?_⟩
  · obtain ⟨x, _, rfl⟩ := List.mem_map.1 hy
    exact ⟨hl x, h1 x⟩
  · obtain ⟨b, off, hA, hk⟩ := hk hn
    refine ⟨b, off, hA, fun k hk' => ?_⟩
    obtain ⟨cs, _, h3, rfl⟩ := hk k (by simpa using hk')
    simpa using h3
#print axioms Ty.append
#print axioms Ty.store
#print axioms Ty.make
end Go.Proofs.Ytabgmbmaakglkaa
