/- Plain words and lemmas for the seat's walks: bounds tests, endings. No condition. -/
import Derived.WalkKit
import Derived.WalkLawsBesides
import Derived.WalkSpells
import Derived.Lib.Hide
import Derived.ProofKit
import Derived.Deep.Slices
import Derived.DataReads
import Derived.Deep.Draws
import Derived.Deep.MidRow
import Derived.Maps.AppendAt
import Derived.Laws.Rows
import Derived.BigQuiet
import Derived.Laws.CopyRow
import Derived.Deep.RegionHeld3
import Derived.Deep.DrawnRows
import Derived.Lib.SliceRun
namespace Go.Proofs.Ythhlfkeikcmnlaa
open Go Go.RowKit

def inB (n lo hi : Int) : Bool := decide (lo ≤ n) && decide (n ≤ hi)
theorem ret_bool {a b : Bool} (h : a = b) : Ending.returned (.bool a) = .returned (.bool b) := by rw [h]
theorem ret_int {k : IntKind} {a b : Int} (h : a = b) : Ending.returned (.int k a) = .returned (.int k b) := by rw [h]
def szLeft (left : Int) (n : Nat) : Int := if left < n then -1 else left - n
theorem szLeft_big {left : Int} {n : Nat} (h : left < n) : szLeft left n = -1 := by unfold szLeft; rw [if_pos h]
theorem szLeft_fits {left : Int} {n : Nat} (h : n ≤ left) : szLeft left n = left - n := by unfold szLeft; rw [if_neg (by omega)]
theorem ret_val {a b : Value} (h : a = b) : Ending.returned a = .returned b := by rw [h]
theorem inB_true {n lo hi : Int} (h : lo ≤ n) (h' : n ≤ hi) : inB n lo hi = true := by simp [inB, h, h']
theorem inB_low {n lo hi : Int} (h : n < lo) : inB n lo hi = false := by simp [inB]; omega
theorem inB_iff {n lo hi : Int} : inB n lo hi = true ↔ lo ≤ n ∧ n ≤ hi := by simp [inB]

end Go.Proofs.Ythhlfkeikcmnlaa
/- What an argument holds, by the shape of its type: a plan of its cells, and the law that a reading meets the plan. Plain; no condition. -/
namespace Go.Proofs.Ythhlfkeikcmnlaa
open Go Go.RowKit Go.ChangeShapes Go.WideShapes Go.Deep

inductive Sh where
  | int (k : IntKind)
  | bool
  | sl (e : TypeId) (sh : Sh)
  | str (fs : Array Field) (sh : Sh)
  | emp
  | cat (t : TypeId) (a b : Sh)

def Sh.size : Sh → Nat
  | .int _ => 1
  | .bool => 1
  | .sl _ _ => 1
  | .str _ s => s.size
  | .emp => 0
  | .cat _ a b => a.size + b.size

def Fit (P : Program) : Sh → TypeId ⊕ (List Field × Nat) → Prop
  | .int k, .inl t => P.underlying t = some (.int k)
  | .bool, .inl t => P.underlying t = some .bool
  | .sl e sh, .inl t => P.underlying t = some (.slice e) ∧ P.cellsOf e = sh.size ∧ 0 < sh.size ∧ Fit P sh (.inl e)
  | .str fs sh, .inl t => P.underlying t = some (.struct fs) ∧ P.cellsOf t = sh.size ∧ Fit P sh (.inr (fs.toList, 0))
  | .emp, .inr x => x.1 = []
  | .cat t a b, .inr x => ∃ f fs, x.1 = f :: fs ∧ f.offset = x.2 ∧ f.type = t ∧ P.cellsOf t = a.size ∧ Fit P a (.inl t) ∧ Fit P b (.inr (fs, x.2 + a.size))
  | _, _ => False

def Holds (w : World) : Sh → List Value → Prop
  | .int k, cs => ∃ n, cs = [.int k n] ∧ (Lit.int k n).wf = true
  | .bool, cs => ∃ b, cs = [.bool b]
  | .sl _ sh, cs => ∃ A n c, cs = [.slice A n c] ∧ n ≤ c ∧ c ≤ maxLen ∧ (0 < n → ∃ b off, A = some ⟨b, off, none⟩ ∧
      ∀ i, i < n → ∃ cs', cs'.length = sh.size ∧ (∀ j u, cs'[j]? = some u → w.cell? ⟨b, off + i * sh.size + j, none⟩ = some u) ∧ Holds w sh cs')
  | .str _ sh, cs => Holds w sh cs
  | .emp, cs => cs = []
  | .cat _ a b, cs => ∃ c1 c2, cs = c1 ++ c2 ∧ c1.length = a.size ∧ Holds w a c1 ∧ Holds w b c2

theorem add_flat (a : Addr) (h : a.spot = none) (n m : Nat) : (a.add n).add m = ⟨a.block, a.off + n + m, none⟩ := by
  obtain ⟨b, o, s⟩ := a
  simp only at h
  subst h
  unfold Addr.add
  by_cases hn : n = 0 <;> by_cases hm : m = 0 <;> simp [hn, hm]

section
variable {H : Type} {enc : TypeId × Value → H} {P : Program} {w : World} {base : Nat} {spare : Nat → Bool} {held : Bool}

def OkAt (enc : TypeId × Value → H) (P : Program) (w : World) (base : Nat) (spare : Nat → Bool) (held : Bool) (sh : Sh) : TypeId ⊕ (List Field × Nat) → Prop
  | .inl t => ∀ (fuel : Nat) (cs : List Value) (y : DataW H × List MemPlace), DataW.trod enc P w base spare held fuel t cs = some y → cs.length = sh.size → Holds w sh cs
  | .inr x => ∀ (cs : List Value), (∀ f ∈ x.1, ∃ n y, DataW.trod enc P w base spare held n f.type ((cs.drop f.offset).take (P.cellsOf f.type)) = some y) → cs.length = x.2 + sh.size → Holds w sh (cs.drop x.2)

theorem okAt (sh : Sh) : ∀ x, Fit P sh x → OkAt enc P w base spare held sh x := by
  induction sh with
  | int k =>
    intro x hx
    rcases x with t | x
    · intro fuel cs y h _
      obtain ⟨n, rfl, _, hw⟩ := DataW.trod_int hx h
      exact ⟨n, rfl, hw⟩
    · exact hx.elim
  | bool =>
    intro x hx
    rcases x with t | x
    · intro fuel cs y h _
      obtain ⟨b, rfl, _⟩ := DataW.trod_bool hx h
      exact ⟨b, rfl⟩
    · exact hx.elim
  | sl e sh ih =>
    intro x hx
    rcases x with t | x
    · intro fuel cs y h _
      obtain ⟨ht, he, hpos, hf⟩ := hx
      rcases open_slice ht h with ⟨rfl, _⟩ | ⟨a, len, cap, m, n, D, Pl, rfl, _, hl, hm, hmm, _, hi⟩
      · exact ⟨none, 0, 0, rfl, Nat.le_refl _, Nat.zero_le _, fun h => absurd h (by omega)⟩
      · refine ⟨some a, len, cap, rfl, hl, hm, fun hn => ?_⟩
        have hlm : len ≤ m := by rw [hmm]; split <;> omega
        have hsp : a.spot = none := by
          obtain ⟨cs', hc, _⟩ := hi 0 (by omega)
          obtain ⟨_, _, hat⟩ := World.cells?_some hc
          have h0 := hat 0 (by omega)
          have hl0 : cs'.length = P.cellsOf e := (World.cells?_some hc).2.1
          rw [Nat.zero_mul] at h0
          have e0 : (a.add 0).add 0 = a := by simp [Addr.add]
          rw [e0] at h0
          cases hs : a.spot with
          | none => rfl
          | some q =>
            exfalso
            have hc0 : w.cell? a = none := by
              unfold World.cell?
              split
              · simp [hs]
              · rfl
            rw [hc0] at h0
            have : cs'[0]? = some (cs'[0]'(by omega)) := List.getElem?_eq_getElem (by omega)
            rw [this] at h0
            cases h0
        refine ⟨a.block, a.off, by obtain ⟨b, o, s⟩ := a; simp only at hsp; subst hsp; rfl, fun i hin => ?_⟩
        obtain ⟨cs', hc, ht'⟩ := hi i (by omega)
        obtain ⟨_, hcl, hat⟩ := World.cells?_some hc
        refine ⟨cs', by omega, fun j u hu => ?_, ih (.inl e) hf _ _ _ ht' (by omega)⟩
        have hj : j < cs'.length := (List.getElem?_eq_some_iff.1 hu).1
        have := hat j (by omega)
        rw [add_flat a hsp, he, hu] at this
        exact this
    · exact hx.elim
  | str fs sh ih =>
    intro x hx
    rcases x with t | x
    · intro fuel cs y h hlen
      obtain ⟨ht, hc, hf⟩ := hx
      obtain ⟨xs, n, _, _, hl, hxl, hg⟩ := DataW.trod_struct ht h
      have := ih (.inr (fs.toList, 0)) hf cs (fun f hfm => by
        obtain ⟨i, hi, rfl⟩ := List.getElem_of_mem hfm
        have hi' : i < fs.size := by simpa using hi
        have h1 := hg i fs[i] (Array.getElem?_eq_getElem hi')
        have h2 : xs[i]? = some (xs[i]'(by omega)) := List.getElem?_eq_getElem (by omega)
        rw [h2] at h1
        exact ⟨n, _, by simpa using h1⟩) (by show cs.length = 0 + sh.size; rw [Nat.zero_add]; exact hlen)
      show Holds w sh cs
      simpa using this
    · exact hx.elim
  | emp =>
    intro x hx
    rcases x with t | x
    · exact hx.elim
    · intro cs _ hl
      show cs.drop x.2 = []
      exact List.drop_eq_nil_of_le (by simp [Sh.size] at hl; omega)
  | cat t a b iha ihb =>
    intro x hx
    rcases x with t' | x
    · exact hx.elim
    · intro cs hfs hl
      obtain ⟨f, fs, hx1, ho, rfl, hc, ha, hb⟩ := hx
      obtain ⟨n, y, hy⟩ := hfs f (by rw [hx1]; simp)
      have hsz : (Sh.cat f.type a b).size = a.size + b.size := rfl
      have hlen : ((cs.drop f.offset).take (P.cellsOf f.type)).length = a.size := by
        rw [List.length_take, List.length_drop, hc]; omega
      refine ⟨(cs.drop f.offset).take (P.cellsOf f.type), cs.drop (x.2 + a.size), ?_, hlen, iha (.inl f.type) ha _ _ _ hy hlen, ?_⟩
      · rw [ho, hc, ← List.drop_drop, List.take_append_drop]
      · exact ihb (.inr (fs, x.2 + a.size)) hb cs (fun g hg => hfs g (by rw [hx1]; simp [hg])) (by simp only; omega)

/-- An argument by value: its cells meet the plan. -/
theorem open_plan {r : Reach} {b0 : Nat} {t : TypeId} {fs : Array Field} {sh : Sh} {v : Value} {d : DataW H} {p : List MemPlace} (hf : Fit P (.str fs sh) (.inl t))
    (hv : Value.okWide P w r b0 t v) (h : DataW.Trod enc P w base spare held t v d p) : ∃ cs : List Value, v = .agg cs.toArray ∧ cs.length = sh.size ∧ Holds w sh cs := by
  obtain ⟨cs, rfl, hsz⟩ := okWide_struct hf.1 hv
  obtain ⟨fuel, hf'⟩ := h
  have hl : cs.toList.length = sh.size := by rw [Array.length_toList, hsz, hf.2.1]
  exact ⟨cs.toList, by simp, hl, okAt (.str fs sh) (.inl t) hf fuel _ _ (by simpa [Value.cells] using hf') hl⟩

/-- An argument that is a slice. -/
theorem open_plan_slice {r : Reach} {b0 : Nat} {t e : TypeId} {sh : Sh} {v : Value} {d : DataW H} {p : List MemPlace} (hf : Fit P (.sl e sh) (.inl t))
    (hv : Value.okWide P w r b0 t v) (h : DataW.Trod enc P w base spare held t v d p) : Holds w (.sl e sh) [v] := by
  obtain ⟨a, len, cap, rfl⟩ := okWide_slice hf.1 hv
  obtain ⟨fuel, hf'⟩ := h
  exact okAt (.sl e sh) (.inl t) hf fuel [.slice a len cap] _ (by simpa [Value.cells] using hf') rfl
end

/-- For every index a thing: a list of things. -/
theorem list_of_all {α : Type} (R : Nat → α → Prop) (n : Nat) (h : ∀ i, i < n → ∃ x, R i x) : ∃ l : List α, l.length = n ∧ ∀ i (hi : i < l.length), R i l[i] := by
  induction n with
  | zero => exact ⟨[], rfl, fun i hi => absurd hi (by simp)⟩
  | succ n ih =>
    obtain ⟨l, hl, hr⟩ := ih fun i hi => h i (by omega)
    obtain ⟨x, hx⟩ := h n (by omega)
    refine ⟨l ++ [x], by simp [hl], fun i hi => ?_⟩
    by_cases hin : i < l.length
    · rw [List.getElem_append_left hin]; exact hr i hin
    · have : i = n := by simp at hi; omega
      subst this
      rw [List.getElem_append_right (by omega)]
      simpa using hx
#print axioms open_plan
#print axioms open_plan_slice
end Go.Proofs.Ythhlfkeikcmnlaa
/- Slices that read as lists; rows of the call's own, an element a group of cells; make, append, store on them. Plain; no condition. -/
namespace Go.Proofs.Ythhlfkeikcmnlaa
open Go Go.RowKit

theorem rangeAt_below {w w' : World} {b o : Nat} {cs : List Value} (h : w.rangeAt b o cs) (hb : Below w.heap.size w w') : w'.rangeAt b o cs := by
  intro j u hu
  have h1 := h j u hu
  exact (hb.cell (p := ⟨b, o + j, none⟩) (block_lt_of_cell h1)).trans h1

theorem rangeAt_new (w : World) (cs : List Value) (t : TypeId) : (w.alloc (.cells cs.toArray t)).rangeAt w.heap.size 0 cs := by
  have := World.rangeAt_of_block (heap_alloc_new w (.cells cs.toArray t)) 0 cs.length
  simpa using this
theorem step_ {B : Nat} {a b c : World} (h : Below B a b) (hB : B ≤ a.heap.size) (k : Below b.heap.size b c) : Below B a c := h.trans (k.mono (Nat.le_trans hB h.size))

/-- A world behind w in which nothing old has turned. -/
structure After (w : World) where
  w' : World
  hb : Below w.heap.size w w'
instance After.some_ (w : World) : Nonempty (After w) := ⟨⟨w, Below.refl _ _⟩⟩
theorem After.keep {w : World} {p : Addr} {v : Value} (h : w.cell? p = some v) : ∀ s : After w, s.w'.cell? p = some v :=
  fun s => (s.hb.cell (block_lt_of_cell h)).trans h
theorem Calls.after {P : Program} {f : FuncId} {args : Array Value} {w : World} {v : Value} (s : After w)
    (h : Calls P f args s.w' fun e w' => e = .returned v ∧ Below s.w'.heap.size s.w' w') : Calls P f args s.w' fun e w'' => e = .returned v ∧ ∃ s' : After w, w'' = s'.w' :=
  h.mono fun _ w'' ⟨he, hb⟩ => ⟨he, ⟨w'', step_ s.hb (Nat.le_refl _) hb⟩, rfl⟩
theorem Calls.after_same {P : Program} {f : FuncId} {args : Array Value} {w : World} {v : Value} (s : After w)
    (h : Calls P f args s.w' fun e w' => e = .returned v ∧ s.w' = w') : Calls P f args s.w' fun e w'' => e = .returned v ∧ ∃ s' : After w, w'' = s'.w' :=
  h.mono fun _ _ ⟨he, hb⟩ => ⟨he, s, hb.symm⟩
/-- A region that draws its order, whose operations read and whose callees leave all that was there: one walk in the text's order. -/
theorem region_after {P : Program} {id : Nat} {Q : Exit → Act → World → Prop} {a : Act} {w : World} {l : List Oper} (hm : P.follows .mixedOrders = true) (hB : Region.lexB .any l.toArray = true)
    (h : wpQuiet P l.toArray (fun w' => ∃ s : After w, w' = s.w') (fun a' => ∀ s : After w, Q .normal a' s.w') l a) : (Code.region id l.toArray true).wp P Q a w :=
  wp_region_quiet (C := fun w' => ∃ s : After w, w' = s.w') hm hB ⟨⟨_, (Below.refl _ _).drew⟩, rfl⟩ (by
    simpa [forall_exists_index] using h)

def ints (n : Int) : List Value := [.int .i64 n]
/-- A slice: v reads as the list xs, each element's cells and what they mean by R. -/
def Sl {α : Type} (R : World → List Value → α → Prop) (sz : Nat) (w : World) (v : Value) (xs : List α) : Prop :=
  ∃ A c, v = .slice A xs.length c ∧ xs.length ≤ c ∧ c ≤ maxLen ∧
    (0 < xs.length → ∃ b off, A = some ⟨b, off, none⟩ ∧ ∀ k (h : k < xs.length), ∃ cs, cs.length = sz ∧ w.rangeAt b (off + k * sz) cs ∧ R w cs xs[k])

/-- What is read stays so while nothing old turns. -/
def Keeps {α : Type} (R : World → List Value → α → Prop) : Prop := ∀ w w' cs x, Below w.heap.size w w' → R w cs x → R w' cs x

/-- Flat elements: the cells tell all. -/
def Flat {α : Type} (enc : α → List Value) : World → List Value → α → Prop := fun _ cs x => cs = enc x
theorem Flat.keeps {α : Type} (enc : α → List Value) : Keeps (Flat enc) := fun _ _ _ _ _ h => h

theorem Sl.below {α : Type} {R : World → List Value → α → Prop} (hR : Keeps R) {sz : Nat} {w w' : World} {v : Value} {xs : List α} (h : Sl R sz w v xs) (hb : Below w.heap.size w w') : Sl R sz w' v xs := by
  obtain ⟨A, c, hv, hc, hm, h⟩ := h
  refine ⟨A, c, hv, hc, hm, fun hn => ?_⟩
  obtain ⟨b, off, hA, hk⟩ := h hn
  refine ⟨b, off, hA, fun k hk' => ?_⟩
  obtain ⟨cs, hl, h1, h2⟩ := hk k hk'
  exact ⟨cs, hl, rangeAt_below h1 hb, hR _ _ _ _ hb h2⟩

theorem Sl.len {α : Type} {R : World → List Value → α → Prop} {sz : Nat} {w : World} {v : Value} {xs : List α} (h : Sl R sz w v xs) : xs.length ≤ maxLen := by
  obtain ⟨A, c, hv, hc, hm, h⟩ := h
  omega

/-- What a raw slice argument holds, as a list. -/
theorem sl_of_holds {α : Type} {R : World → List Value → α → Prop} {e : TypeId} {sh : Sh} {w : World} {v : Value} (hone : ∀ cs, cs.length = sh.size → Holds w sh cs → ∃ x : α, R w cs x)
    (h : Holds w (.sl e sh) [v]) : ∃ xs : List α, Sl R sh.size w v xs := by
  obtain ⟨A, n, c, hv, hnc, hc, h⟩ := h
  obtain rfl : v = .slice A n c := by simpa using hv
  by_cases hn : 0 < n
  · obtain ⟨b, off, hA, hk⟩ := h hn
    obtain ⟨l, hl, hr⟩ := list_of_all (fun i x => ∃ cs, cs.length = sh.size ∧ w.rangeAt b (off + i * sh.size) cs ∧ R w cs x) n (fun i hi => by
      obtain ⟨cs, hlen, hcell, hh⟩ := hk i hi
      obtain ⟨x, hx⟩ := hone cs hlen hh
      exact ⟨x, cs, hlen, hcell, hx⟩)
    subst hl
    exact ⟨l, A, c, rfl, hnc, hc, fun _ => ⟨b, off, hA, hr⟩⟩
  · obtain rfl : n = 0 := by omega
    exact ⟨[], A, c, rfl, hnc, hc, fun h => absurd h (by simp)⟩

def I64 (n : Int) : Prop := -9223372036854775808 ≤ n ∧ n ≤ 9223372036854775807
theorem i64_of_wf {n : Int} (h : (Lit.int .i64 n).wf = true) : I64 n := by
  simpa [Lit.wf, IntKind.min, IntKind.max, IntKind.signed, IntKind.bits, I64] using h
/-- A raw slice argument of flat elements. -/
theorem flat_of_holds {α : Type} {enc : α → List Value} {ok : α → Prop} {e : TypeId} {sh : Sh} {w : World} {v : Value} (hone : ∀ cs, Holds w sh cs → ∃ x : α, cs = enc x ∧ ok x)
    (h : Holds w (.sl e sh) [v]) : ∃ xs : List α, Sl (Flat enc) sh.size w v xs ∧ ∀ x ∈ xs, ok x := by
  obtain ⟨xs, hs⟩ := sl_of_holds (R := fun _ cs x => cs = enc x ∧ ok x) (fun cs _ h => hone cs h) h
  obtain ⟨A, c, hv, hc, hm, hk⟩ := hs
  refine ⟨xs, ⟨A, c, hv, hc, hm, fun hn => ?_⟩, fun x hx => ?_⟩
  · obtain ⟨b, off, hA, h2⟩ := hk hn
    refine ⟨b, off, hA, fun k hk' => ?_⟩
    obtain ⟨cs, h3, h4, h5, _⟩ := h2 k hk'
    exact ⟨cs, h3, h4, h5⟩
  · obtain ⟨k, hk', rfl⟩ := List.getElem_of_mem hx
    obtain ⟨b, off, hA, h2⟩ := hk (by omega)
    obtain ⟨cs, h3, h4, h5, h6⟩ := h2 k hk'
    exact h6

/-- The form that a walk takes. -/
theorem Sl.open_ {α : Type} {R : World → List Value → α → Prop} {sz : Nat} {w : World} {v : Value} {xs : List α} (h : Sl R sz w v xs) :
    ∃ A c, v = .slice A xs.length c ∧ xs.length ≤ c ∧ c ≤ 9223372036854775807 ∧
      Hid (0 < xs.length → ∃ b off, A = some ⟨b, off, none⟩ ∧ ∀ k (h : k < xs.length), ∃ cs, cs.length = sz ∧ w.rangeAt b (off + k * sz) cs ∧ R w cs xs[k]) := by
  obtain ⟨A, c, hv, hc, hm, h⟩ := h
  exact ⟨A, c, hv, hc, by simpa [maxLen] using hm, h⟩
theorem flat_at {α : Type} {enc : α → List Value} {sz : Nat} {w : World} {A : Option Addr} {xs : List α}
    (h : Hid (0 < xs.length → ∃ b off, A = some ⟨b, off, none⟩ ∧ ∀ k (h : k < xs.length), ∃ cs, cs.length = sz ∧ w.rangeAt b (off + k * sz) cs ∧ Flat enc w cs xs[k])) (hn : 0 < xs.length) :
    ∃ b off, A = some ⟨b, off, none⟩ ∧ ∀ k (h : k < xs.length), w.rangeAt b (off + k * sz) (enc xs[k]) := by
  obtain ⟨b, off, hA, hk⟩ := h.out hn
  exact ⟨b, off, hA, fun k hk' => by obtain ⟨cs, _, h1, rfl⟩ := hk k hk'; exact h1⟩

/-! ### A list of groups, flattened -/
theorem flat_get (sz : Nat) : ∀ (ys : List (List Value)) (_ : ∀ y ∈ ys, y.length = sz) (k j : Nat) (h : k < ys.length), j < sz → ys.flatten[k * sz + j]? = ys[k][j]?
  | [], _, k, j, h, _ => absurd h (by simp)
  | y :: ys, hsz, 0, j, h, hj => by
    rw [List.flatten_cons, Nat.zero_mul, Nat.zero_add, List.getElem?_append_left (by rw [hsz y (by simp)]; exact hj)]
    rfl
  | y :: ys, hsz, k + 1, j, h, hj => by
    have hy := hsz y (by simp)
    rw [List.flatten_cons, List.getElem?_append_right (by rw [hy, Nat.add_mul]; omega), hy]
    have e : (k + 1) * sz + j - sz = k * sz + j := by rw [Nat.add_mul]; omega
    rw [e, flat_get sz ys (fun z hz => hsz z (by simp [hz])) k j (by simpa using h) hj]
    simp
theorem flat_len (sz : Nat) : ∀ (ys : List (List Value)) (_ : ∀ y ∈ ys, y.length = sz), ys.flatten.length = ys.length * sz
  | [], _ => by simp
  | y :: ys, h => by
    rw [List.flatten_cons, List.length_append, flat_len sz ys (fun z hz => h z (by simp [hz])), h y (by simp), List.length_cons, Nat.add_mul]; omega
theorem flat_set (sz : Nat) : ∀ (ys : List (List Value)) (_ : ∀ y ∈ ys, y.length = sz) (k j : Nat) (h : k < ys.length) (_ : j < sz) (u : Value), ys.flatten.set (k * sz + j) u = (ys.set k (ys[k].set j u)).flatten
  | [], _, k, j, h, _, _ => absurd h (by simp)
  | y :: ys, hsz, 0, j, h, hj, u => by
    have hy := hsz y (by simp)
    rw [List.flatten_cons, Nat.zero_mul, Nat.zero_add, List.set_append_left _ _ (by rw [hy]; exact hj)]
    rfl
  | y :: ys, hsz, k + 1, j, h, hj, u => by
    have hy := hsz y (by simp)
    rw [List.flatten_cons, List.set_append_right _ _ (by rw [hy, Nat.add_mul]; omega), hy]
    have e : (k + 1) * sz + j - sz = k * sz + j := by rw [Nat.add_mul]; omega
    rw [e, flat_set sz ys (fun z hz => hsz z (by simp [hz])) k j (by simpa using h) hj u]
    simp

/-! ### A row of the call's own, its elements groups of sz cells -/
def Row (base : Nat) (e : TypeId) (sz : Nat) (w : World) (v : Value) (ys : List (List Value)) : Prop :=
  (∀ y ∈ ys, y.length = sz) ∧ w.ownsRow base e sz v ys.length ys.flatten

section
variable {base : Nat} {e : TypeId} {sz : Nat} {w : World} {v : Value} {ys : List (List Value)}
theorem Row.nil (w : World) (base : Nat) (e : TypeId) (sz : Nat) : Row base e sz w (.slice none 0 0) [] := ⟨by simp, World.ownsRow_nil _ _ _ _⟩
theorem Row.form (h : Row base e sz w v ys) (hn : 0 < ys.length) : ∃ g cap, v = .slice (some ⟨g, 0, none⟩) ys.length cap ∧ base ≤ g ∧ g < w.heap.size ∧ ys.length ≤ cap := by
  rcases h.2.2 with ⟨rfl, hn'⟩ | ⟨g, cap, cur, rfl, hb, hg, hnc, _⟩
  · omega
  · refine ⟨g, cap, rfl, hb, ?_, hnc⟩
    rcases Nat.lt_or_ge g w.heap.size with h1 | h1
    · exact h1
    · rw [Array.getElem?_eq_none h1] at hg; cases hg
theorem Row.lt (h : Row base e sz w v ys) : ∀ k, v.ownBlock = some k → base ≤ k ∧ k < w.heap.size := h.2.lt
theorem Row.alloc (h : Row base e sz w v ys) (o : Obj) : Row base e sz (w.alloc o) v ys := ⟨h.1, h.2.alloc o⟩
theorem Row.drew (h : Row base e sz w v ys) : Row base e sz w.drew v ys := ⟨h.1, h.2.drew⟩
theorem Row.kept {w' : World} {row : Option Nat} (h : Row base e sz w v ys) (hg : w.grownBy w' row) (hne : v.ownBlock = none ∨ v.ownBlock ≠ row) : Row base e sz w' v ys := ⟨h.1, h.2.kept hg hne⟩
theorem Row.below {w' : World} (h : Row base e sz w v ys) (hb : Below w.heap.size w w') : Row base e sz w' v ys := by
  refine h.kept (row := none) ⟨hb.os, hb.tape, hb.output, hb.size, fun k hk _ => hb.block k hk⟩ ?_
  cases h' : v.ownBlock <;> simp
theorem Row.mono {base' : Nat} (h : Row base e sz w v ys) (hb : base' ≤ base) : Row base' e sz w v ys := by
  refine ⟨h.1, h.2.1, ?_⟩
  rcases h.2.2 with h2 | ⟨g, cap, cur, h1, h2, h3⟩
  · exact .inl h2
  · exact .inr ⟨g, cap, cur, h1, by omega, h3⟩
theorem Row.cell {g n cap : Nat} (h : Row base e sz w (.slice (some ⟨g, 0, none⟩) n cap) ys) {k j : Nat} (hk : k < ys.length) (hj : j < sz) : w.cell? ⟨g, k * sz + j, none⟩ = ys[k][j]? := by
  have hn : n = ys.length := by
    rcases h.2.2 with ⟨h1, _⟩ | ⟨g', cap', cur, h1, _⟩ <;> simp at h1
    exact h1.2.1
  subst hn
  have hkj : k * sz + j < ys.length * sz := by
    have : (k + 1) * sz ≤ ys.length * sz := Nat.mul_le_mul_right _ hk
    rw [Nat.add_mul] at this
    omega
  rw [h.2.cellAt _ hkj, flat_get sz ys h.1 k j hk hj]
theorem Row.frozen {g n cap : Nat} (h : Row base e sz w (.slice (some ⟨g, 0, none⟩) n cap) ys) (j : Nat) : w.frozen? ⟨g, j, none⟩ = false := by
  have hn : n = ys.length := by
    rcases h.2.2 with ⟨h1, _⟩ | ⟨g', cap', cur, h1, _⟩ <;> simp at h1
    exact h1.2.1
  subst hn
  exact h.2.frozenAt j
theorem Row.range {g n cap : Nat} (h : Row base e sz w (.slice (some ⟨g, 0, none⟩) n cap) ys) {k : Nat} (hk : k < ys.length) : w.rangeAt g (k * sz) ys[k] := by
  intro j u hu
  have hj : j < sz := by rw [← h.1 ys[k] (List.getElem_mem hk)]; exact (List.getElem?_eq_some_iff.1 hu).1
  rw [h.cell hk hj, hu]
/-- One cell written. -/
theorem Row.stored {g n cap : Nat} (h : Row base e sz w (.slice (some ⟨g, 0, none⟩) n cap) ys) {k j : Nat} (hk : k < ys.length) (hj : j < sz) (u : Value) :
    Row base e sz (w.setCell ⟨g, k * sz + j, none⟩ u) (.slice (some ⟨g, 0, none⟩) n cap) (ys.set k (ys[k].set j u)) ∧ w.grownBy (w.setCell ⟨g, k * sz + j, none⟩ u) (some g) := by
  have hn : n = ys.length := by
    rcases h.2.2 with ⟨h1, _⟩ | ⟨g', cap', cur, h1, _⟩ <;> simp at h1
    exact h1.2.1
  subst hn
  obtain ⟨h1, h2⟩ := h.2.stored (k * sz + j) u
  rw [flat_set sz ys h.1 k j hk hj u] at h1
  refine ⟨⟨fun y hy => ?_, by simpa using h1⟩, h2⟩
  rcases List.mem_or_eq_of_mem_set hy with hy | rfl
  · exact h.1 y hy
  · rw [List.length_set]; exact h.1 _ (List.getElem_mem hk)
/-- An element's leading cells written, from cell j on. -/
theorem Row.storeds {g n cap : Nat} : ∀ (us : List Value) (w : World) (ys : List (List Value)) (_ : Row base e sz w (.slice (some ⟨g, 0, none⟩) n cap) ys) (k j : Nat) (hk : k < ys.length) (_ : j + us.length ≤ sz),
    Row base e sz (w.setCells g (k * sz + j) us) (.slice (some ⟨g, 0, none⟩) n cap) (ys.set k (ys[k].take j ++ us ++ ys[k].drop (j + us.length))) ∧ w.grownBy (w.setCells g (k * sz + j) us) (some g)
  | [], w, ys, h, k, j, hk, hj => by
    refine ⟨?_, World.grownBy.refl _ _⟩
    have e1 : ys[k].take j ++ [] ++ ys[k].drop (j + ([] : List Value).length) = ys[k] := by simp
    rw [e1, List.set_getElem_self]
    exact h
  | u :: us, w, ys, h, k, j, hk, hj => by
    simp only [List.length_cons] at hj
    obtain ⟨h1, h2⟩ := h.stored hk (j := j) (by omega) u
    have hkl : k < (ys.set k (ys[k].set j u)).length := by simpa using hk
    obtain ⟨h3, h4⟩ := Row.storeds us _ _ h1 k (j + 1) hkl (by omega)
    have hlen : ys[k].length = sz := h.1 _ (List.getElem_mem hk)
    refine ⟨?_, ⟨h4.os.trans h2.os, h4.tape.trans h2.tape, h4.output.trans h2.output, Nat.le_trans h2.size h4.size, fun i hi hne => (h4.block i (Nat.lt_of_lt_of_le hi h2.size) hne).trans (h2.block i hi hne)⟩⟩
    have e1 : (ys.set k (ys[k].set j u)).set k ((ys.set k (ys[k].set j u))[k].take (j + 1) ++ us ++ (ys.set k (ys[k].set j u))[k].drop (j + 1 + us.length)) = ys.set k (ys[k].take j ++ u :: us ++ ys[k].drop (j + (u :: us).length)) := by
      simp only [List.getElem_set_self, List.set_set]
      congr 1
      rw [List.take_add_one, List.take_set_of_le (by omega), List.drop_set_of_lt (by omega)]
      simp only [List.length_cons]
      have : (ys[k].set j u)[j]? = some u := by rw [List.getElem?_set_self (by omega)]
      rw [this]
      have e2 : j + 1 + us.length = j + (us.length + 1) := by omega
      rw [e2]
      simp
    rw [e1] at h3
    exact h3
theorem Row.put {g n cap : Nat} (h : Row base e sz w (.slice (some ⟨g, 0, none⟩) n cap) ys) {k : Nat} (hk : k < ys.length) (us : List Value) (hu : us.length = sz) :
    Row base e sz (w.setCells g (k * sz) us) (.slice (some ⟨g, 0, none⟩) n cap) (ys.set k us) ∧ w.grownBy (w.setCells g (k * sz) us) (some g) := by
  have := Row.storeds us w ys h k 0 hk (by omega)
  have hlen : ys[k].length = sz := h.1 _ (List.getElem_mem hk)
  have e1 : ys[k].drop us.length = [] := List.drop_eq_nil_of_le (by omega)
  simpa [e1] using this
theorem Row.there {g n cap : Nat} (h : Row base e sz w (.slice (some ⟨g, 0, none⟩) n cap) ys) {k : Nat} (hk : k < ys.length) : w.there g (k * sz) sz := by
  intro j hj
  refine ⟨?_, h.frozen _⟩
  rw [h.cell hk hj]
  have hlen : ys[k].length = sz := h.1 _ (List.getElem_mem hk)
  rw [List.getElem?_eq_getElem (by omega)]
  rfl

/-- A row of the call's own reads as the list. -/
theorem Sl.of_row {α : Type} {R : World → List Value → α → Prop} {xs : List α} (h : Row base e sz w v ys) (hl : ys.length = xs.length) (hR : ∀ k (h : k < ys.length) (h' : k < xs.length), R w ys[k] xs[k]) : Sl R sz w v xs := by
  by_cases hn : 0 < ys.length
  · obtain ⟨g, cap, rfl, hb, hg, hc⟩ := h.form hn
    have hm : cap ≤ maxLen := by
      rcases h.2.2 with ⟨h1, _⟩ | ⟨g', cap', cur, h1, _, _, _, hm, _⟩ <;> simp at h1
      omega
    refine ⟨_, cap, by rw [hl], by omega, hm, fun _ => ⟨g, 0, rfl, fun k hk => ⟨ys[k], h.1 _ (List.getElem_mem _), ?_, hR k (by omega) hk⟩⟩⟩
    rw [Nat.zero_add]
    exact h.range (by omega)
  · have h0 : ys.length = 0 := by omega
    rcases h.2.2 with ⟨rfl, hn⟩ | ⟨g, cap, cur, rfl, _, hg, hnc, hcm, hcs, htake⟩
    · exact ⟨none, 0, by rw [← hl, h0], by omega, Nat.zero_le _, fun h => absurd h (by omega)⟩
    · exact ⟨_, cap, by rw [hl], by omega, hcm, fun h => absurd h (by omega)⟩
theorem Sl.of_flat {α : Type} {enc : α → List Value} {xs : List α} (h : Row base e sz w v (xs.map enc)) : Sl (Flat enc) sz w v xs :=
  Sl.of_row h (by simp) fun k h1 h2 => by simp [Flat]
end

/-! ### An element type's facts, and the operations -/
structure Ty (P : Program) (t e : TypeId) (zv : Value) (z : List Value) (sz bytes : Nat) : Prop where
  ht : P.underlying t = some (.slice e)
  hi : (P.info? e).map (fun i => (i.zero, i.size, i.bytes)) = some (some zv, sz, bytes)
  hz : zv.cells = z.toArray
  hzl : z.length = sz
  pos : 0 < sz
  small : bytes ≤ 65536

section
variable {P : Program} {t e : TypeId} {zv : Value} {z : List Value} {sz bytes : Nat}

theorem madeCells_flat (z : List Value) (n : Nat) (hz : 0 < z.length) : (madeCells z.toArray (n * z.length)).toList = (List.replicate n z).flatten := by
  apply List.ext_getElem?
  intro i
  by_cases hi : i < n * z.length
  · have hk : i / z.length < n := Nat.div_lt_of_lt_mul (by rw [Nat.mul_comm]; exact hi)
    have hj : i % z.length < z.length := Nat.mod_lt _ hz
    have e1 : i = i / z.length * z.length + i % z.length := by rw [Nat.mul_comm]; exact (Nat.div_add_mod _ _).symm
    have h2 := flat_get z.length (List.replicate n z) (by intro y hy; rw [(List.mem_replicate.1 hy).2]) (i / z.length) (i % z.length) (by simpa using hk) hj
    rw [← e1] at h2
    rw [h2]
    simp [madeCells, hi, List.getElem_replicate, hj]
  · rw [List.getElem?_eq_none (by simp [madeCells]; omega), List.getElem?_eq_none (by rw [flat_len z.length _ (by intro y hy; rw [(List.mem_replicate.1 hy).2])]; simp; omega)]

/-- make([]T, n). -/
theorem Ty.make (T : Ty P t e zv z sz bytes) {w : World} {ops : Array Oper} {rest : List Oper} {o : Oper} {a : Act} {Q : Exit → Act → World → Prop} (hg : o.guard = none) (l c : Operand) (hop : o.op = Op.makeSlice t l c)
    (base : Nat) (n : Nat) (L C : Int) (hl : a.eval l = .int .i64 L) (hc : a.eval c = .int .i64 C) (hL : L = (n : Int)) (hC : C = (n : Int)) (hn : n ≤ 2147483648) (hb : base ≤ w.heap.size)
    (hK : ∀ w', Row base e sz w' (.slice (some ⟨w.heap.size, 0, none⟩) n n) (List.replicate n z) → Below w.heap.size w w' → w.heap.size < w'.heap.size → wpList P ops Q rest (a.put o.dst (.slice (some ⟨w.heap.size, 0, none⟩) n n)) w') :
    wpList P ops Q (o :: rest) a w := by
  obtain ⟨i, h2, h3, h4, h5⟩ := info_parts T.hi
  have hsm : i.bytes * n ≤ 65536 * 2147483648 := Nat.mul_le_mul (by rw [h5]; exact T.small) hn
  refine wpList_make_full w hg l c t hop base e i zv sz T.ht h2 h3 h4 .i64 .i64 L C n hl hc hL hC (by omega) (by unfold maxLen; omega) hb fun w' hown hgr => ?_
  have e1 : (madeCells zv.cells (n * sz)).toList = (List.replicate n z).flatten := by
    rw [T.hz, ← T.hzl]; exact madeCells_flat z n (by rw [T.hzl]; exact T.pos)
  rw [e1] at hown
  have hr : Row base e sz w' (.slice (some ⟨w.heap.size, 0, none⟩) n n) (List.replicate n z) := ⟨by intro y hy; rw [(List.mem_replicate.1 hy).2, T.hzl], by simpa using hown⟩
  refine hK w' hr ⟨hgr.os, hgr.tape, hgr.output, hgr.size, fun k hk => hgr.block k hk (by simp)⟩ ?_
  rcases hown.2 with ⟨h1, _⟩ | ⟨g', cap', cur, h1, _, hh, _⟩
  · simp at h1
  · simp only [Value.slice.injEq, Option.some.injEq, Addr.mk.injEq, and_true] at h1
    rw [h1.1]
    rcases Nat.lt_or_ge g' w'.heap.size with h6 | h6
    · exact h6
    · rw [Array.getElem?_eq_none h6] at hh; cases hh

/-- The source of an append: nothing, or groups that lie in memory. -/
def Src (w : World) (sz : Nat) (A : Option Addr) (m : Nat) (news : List (List Value)) : Prop :=
  news.length = m ∧ (∀ y ∈ news, y.length = sz ∧ ∀ u ∈ y, u.oneCell' = true) ∧ (0 < m → ∃ b off, A = some ⟨b, off, none⟩ ∧ ∀ k (h : k < news.length), w.rangeAt b (off + k * sz) news[k])

theorem append_nil_run (T : Ty P t e zv z sz bytes) {w : World} {base : Nat} {v : Value} {ys : List (List Value)} (hown : Row base e sz w v ys) (ty : TypeId) (A : Option Addr) (c : Nat) :
    ∃ v', (Builtin.append_ #[t, t] ty #[v, .slice A 0 c]).run P w = .ok v' w ∧ v' = v := by
  obtain ⟨i, h2, h3, h4, h5⟩ := info_parts T.hi
  refine ⟨v, ?_, rfl⟩
  rcases hown.2.2 with ⟨rfl, h0⟩ | ⟨g, cap, cur, rfl, _, _, hnc, _⟩
  · cases A <;> simp [Builtin.append_, run_underlying T.ht, sizeOf, typeInfo, h2, Builtin.lenOf, Builtin.firstCells, loadCells, loadCellsFrom]
  · cases A <;> simp [Builtin.append_, run_underlying T.ht, sizeOf, typeInfo, h2, Builtin.lenOf, Builtin.firstCells, hnc, storeCells, loadCells, loadCellsFrom]

theorem append_run (T : Ty P t e zv z sz bytes) {w : World} {base : Nat} {v : Value} {ys : List (List Value)} (hown : Row base e sz w v ys) (ty : TypeId) (A : Option Addr) (m c : Nat) (news : List (List Value)) (hs : Src w sz A m news)
    (hn : ys.length + m ≤ 2147483648) (hb : base ≤ w.heap.size) :
    ∃ v' w', (Builtin.append_ #[t, t] ty #[v, .slice A m c]).run P w = .ok v' w' ∧ Row base e sz w' v' (ys ++ news) ∧ w.grownBy w' v.ownBlock ∧ (v'.ownBlock = v.ownBlock ∨ v'.ownBlock = some w.heap.size) := by
  obtain ⟨hl, hy, hat⟩ := hs
  by_cases h0 : 0 < m
  · obtain ⟨b, off, rfl, hk⟩ := hat h0
    obtain ⟨i, h2, h3, h4, h5⟩ := info_parts T.hi
    have hfl := flat_len sz news (fun y h => (hy y h).1)
    have hsm : (ys.length + m) * bytes ≤ 2147483648 * 65536 := Nat.mul_le_mul hn T.small
    obtain ⟨v', w', r1, r2, r3, _, r5⟩ := run_append_own_at (P := P) w base t ty e i zv sz bytes T.ht h2 h3 h4 h5 (by rw [T.hz]; simpa using T.hzl) T.pos v ys.length ys.flatten hown.2 ⟨b, off, none⟩ m c news.flatten (by rw [hfl, hl])
      (fun j u hu => by
        have hj : j < m * sz := by rw [← hl, ← hfl]; exact (List.getElem?_eq_some_iff.1 hu).1
        have hkk : j / sz < news.length := by rw [hl]; exact Nat.div_lt_of_lt_mul (by rw [Nat.mul_comm]; exact hj)
        have hjj : j % sz < sz := Nat.mod_lt _ T.pos
        have e1 : j = j / sz * sz + j % sz := by rw [Nat.mul_comm]; exact (Nat.div_add_mod _ _).symm
        rw [e1, flat_get sz news (fun y h => (hy y h).1) _ _ hkk hjj] at hu
        have := hk (j / sz) hkk (j % sz) u hu
        rw [Addr.add_mid]
        rw [show off + j = off + j / sz * sz + j % sz from by omega]
        exact this)
      (fun u hu => by
        obtain ⟨y, hy1, hy2⟩ := List.mem_flatten.1 hu
        exact (hy y hy1).2 u hy2)
      (by unfold maxLen; omega) (by omega) hb
    refine ⟨v', w', r1, ⟨fun y h => ?_, ?_⟩, r3, r5⟩
    · rcases List.mem_append.1 h with h | h
      · exact hown.1 y h
      · exact (hy y h).1
    · rw [List.length_append, List.flatten_append, hl]; exact r2
  · obtain rfl : m = 0 := by omega
    obtain rfl := List.eq_nil_of_length_eq_zero hl
    obtain ⟨v', hr, rfl⟩ := append_nil_run T hown ty A c
    exact ⟨v', w, hr, by simpa using hown, World.grownBy.refl _ _, .inl rfl⟩

/-- append(s, xs...) onto a row of the call's own. -/
theorem Ty.append (T : Ty P t e zv z sz bytes) {w : World} {ops : Array Oper} {rest : List Oper} {o : Oper} {a : Act} {Q : Exit → Act → World → Prop} (hgd : o.guard = none) (s x : Operand)
    (ho : o.op = .call { callee := .builtin .append, args := #[s, x], argTypes := #[t, t] })
    (base : Nat) (v : Value) (ys : List (List Value)) (hs : a.eval s = v) (hown : Row base e sz w v ys) (A : Option Addr) (m c : Nat) (news : List (List Value)) (hx : a.eval x = .slice A m c) (hsrc : Src w sz A m news)
    (hn : ys.length + m ≤ 2147483648) (hb : base ≤ w.heap.size)
    (h : ∀ v' w', Row base e sz w' v' (ys ++ news) → w.grownBy w' v.ownBlock → (v'.ownBlock = v.ownBlock ∨ v'.ownBlock = some w.heap.size) → wpList P ops Q rest (a.put o.dst v') w') : wpList P ops Q (o :: rest) a w := by
  refine wpList_plain hgd fun K hK => ?_
  obtain ⟨v', w', hrun, h2, h3, h4⟩ := append_run T hown o.type A m c news hsrc hn hb
  unfold Oper.wp execOp
  simp only [ho, resolve, invoke, builtin, Sem.run_bind, Sem.run_pure, Result.andThen_ok, List.map_toArray, List.map_cons, List.map_nil, hs, hx, hrun]
  exact hK _ _ (h v' w' h2 h3 h4)

/-- A struct's facts, and its load. -/
structure St (P : Program) (t : TypeId) (sz : Nat) : Prop where
  hu : ∃ fs, P.underlying t = some (.struct fs)
  hi : (P.info? t).map (·.size) = some sz
theorem St.load {t : TypeId} {sz : Nat} (T : St P t sz) {w : World} {ops : Array Oper} {rest : List Oper} {o : Oper} {a : Act} {Q : Exit → Act → World → Prop} (hgd : o.guard = none) (x : Operand) (ho : o.op = .load t x)
    (b off : Nat) (hx : a.eval x = .pointer (some ⟨b, off, none⟩)) (cs : List Value) (hl : cs.length = sz) (hc : w.rangeAt b off cs)
    (h : wpList P ops Q rest (a.put o.dst (.agg cs.toArray)) w) : wpList P ops Q (o :: rest) a w := by
  obtain ⟨fs, hu⟩ := T.hu
  exact wpList_load_mid hgd t x ho b off hx cs _ hc hu rfl (by rw [T.hi, hl]) h

/-- The class of worlds of such a region. -/
abbrev Cl (w : World) : World → Prop := fun w' => ∃ s : After w, w' = s.w'
theorem St.qload {t : TypeId} {sz : Nat} (T : St P t sz) {w : World} {ops : Array Oper} {rest : List Oper} {o : Oper} {a : Act} {Q : Act → Prop} (hw : Region.wanted o (yielded ops a.tmps) = true) (x : Operand) (ho : o.op = .load t x)
    (b off : Nat) (hx : a.eval x = .pointer (some ⟨b, off, none⟩)) (cs : List Value) (hl : cs.length = sz) (hc : w.rangeAt b off cs)
    (h : wpQuiet P ops (Cl w) Q rest (a.put o.dst (.agg cs.toArray))) : wpQuiet P ops (Cl w) Q (o :: rest) a := by
  obtain ⟨fs, hu⟩ := T.hu
  refine BigFrame.wpQuiet_want hw fun K hK => ⟨.agg cs.toArray, ?_, hK _ h⟩
  rintro _ ⟨s, rfl⟩
  have := run_loadAt_mid (P := P) s.w' b off t cs _ (rangeAt_below hc s.hb) hu rfl (by rw [T.hi, hl])
  unfold Oper.quietAt execOp
  simp only [ho, hx, this, Sem.run_bind, Sem.run_pure, Result.andThen_ok]
  exact ⟨rfl, rfl⟩

theorem Row.none_len {base : Nat} {e : TypeId} {sz : Nat} {w : World} {A : Option Addr} {n c : Nat} {ys : List (List Value)} (h : Row base e sz w (.slice A n c) ys) : n = ys.length := by
  rcases h.2.2 with ⟨h1, h2⟩ | ⟨g', cap', cur, h1, _⟩ <;> simp at h1
  · omega
  · exact h1.2.1
theorem Row.set_eq {base : Nat} {e : TypeId} {sz : Nat} {w : World} {v : Value} {ys : List (List Value)} {j : Nat} {l l' : List Value} (h : Row base e sz w v (ys.set j l)) (he : l = l') : Row base e sz w v (ys.set j l') := he ▸ h
/-- xs[k].f = an int, xs a row of the call's own. -/
theorem put1_ {k0 : IntKind} {w : World} {ops : Array Oper} {rest : List Oper} {o : Oper} {a : Act} {Q : Exit → Act → World → Prop} (hgd : o.guard = none) (ti : TypeId) (x y : Operand) (ho : o.op = .store ti x y)
    (hti : (P.info? ti).map (·.size) = some 1) (base g n cap k j off : Nat) (ys : List (List Value)) (u : Int) (hown : Row base e sz w (.slice (some ⟨g, 0, none⟩) n cap) ys) (hk : k < ys.length) (hj : j < sz) (hx : a.eval x = .pointer (some ⟨g, off, none⟩)) (hoff : off = k * sz + j) (hy : a.eval y = .int k0 u)
    (h : ∀ w', Row base e sz w' (.slice (some ⟨g, 0, none⟩) n cap) (ys.set k (ys[k].set j (.int k0 u))) → w.grownBy w' (some g) → wpList P ops Q rest (a.put o.dst undef) w') : wpList P ops Q (o :: rest) a w := by
  subst hoff
  obtain ⟨r1, r2⟩ := hown.stored hk hj (.int k0 u)
  refine wpList_plain hgd fun K hK => ?_
  have hlen : ys[k].length = sz := hown.1 _ (List.getElem_mem hk)
  have hc := hown.cell hk hj
  rw [List.getElem?_eq_getElem (by omega)] at hc
  have hfz := hown.frozen (k * sz + j)
  have hrun : (Instr.storeAt ti (.pointer (some ⟨g, k * sz + j, none⟩)) (.int k0 u)).run P w = .ok () (w.setCell ⟨g, k * sz + j, none⟩ (.int k0 u)) := by
    cases hq : P.info? ti with
    | none => simp [hq] at hti
    | some i =>
      have hs : i.size = 1 := by simpa [hq] using hti
      simp [Instr.storeAt, Instr.sureAddr, storeVar, sizeOf, typeInfo, hq, Value.cells, hs, storeCells, go_sem, hc, hfz, Addr.add]
  unfold Oper.wp execOp
  simp only [ho, hx, hy, hrun, Sem.run_bind, Sem.run_pure, Result.andThen_ok]
  exact hK _ _ (h _ r1 r2)
theorem grown_trans {w w' w'' : World} {g : Option Nat} (h2 : w.grownBy w' g) (h4 : w'.grownBy w'' g) : w.grownBy w'' g :=
  ⟨h4.os.trans h2.os, h4.tape.trans h2.tape, h4.output.trans h2.output, Nat.le_trans h2.size h4.size, fun i hi hne => (h4.block i (Nat.lt_of_lt_of_le hi h2.size) hne).trans (h2.block i hi hne)⟩

/-- The first j groups turned into f. -/
def turned (f : Nat → List Value) (ys : List (List Value)) (j : Nat) : List (List Value) := (List.range j).map f ++ ys.drop j
theorem turned_zero (f : Nat → List Value) (ys : List (List Value)) : turned f ys 0 = ys := by simp [turned]
theorem turned_len {f : Nat → List Value} {ys : List (List Value)} {j : Nat} (h : j ≤ ys.length) : (turned f ys j).length = ys.length := by simp [turned]; omega
theorem turned_all (f : Nat → List Value) (ys : List (List Value)) : turned f ys ys.length = (List.range ys.length).map f := by simp [turned]
theorem turned_set (f : Nat → List Value) (ys : List (List Value)) (j : Nat) (h : j < ys.length) : (turned f ys j).set j (f j) = turned f ys (j + 1) := by
  unfold turned
  rw [List.set_append_right _ _ (by simp), List.range_succ, List.map_append, List.drop_eq_getElem_cons h]
  simp only [List.length_map, List.length_range, Nat.sub_self, List.set_cons_zero, List.map_cons, List.map_nil, List.append_assoc, List.cons_append, List.nil_append]

/-- xs[k] = a whole struct, xs a row of the call's own. -/
theorem Ty.store (T : Ty P t e zv z sz bytes) {w : World} {ops : Array Oper} {rest : List Oper} {o : Oper} {a : Act} {Q : Exit → Act → World → Prop} (hgd : o.guard = none) (x y : Operand) (ho : o.op = .store e x y)
    (base g n cap k off : Nat) (ys : List (List Value)) (us : List Value) (hown : Row base e sz w (.slice (some ⟨g, 0, none⟩) n cap) ys) (hk : k < ys.length) (hx : a.eval x = .pointer (some ⟨g, off, none⟩)) (hoff : off = k * sz) (hy : a.eval y = .agg us.toArray)
    (hu : us.length = sz) (h1 : ∀ u ∈ us, u.oneCell' = true)
    (h : ∀ w', Row base e sz w' (.slice (some ⟨g, 0, none⟩) n cap) (ys.set k us) → w.grownBy w' (some g) → wpList P ops Q rest (a.put o.dst undef) w') : wpList P ops Q (o :: rest) a w := by
  subst hoff
  obtain ⟨i, h2, h3, h4, h5⟩ := info_parts T.hi
  obtain ⟨r1, r2⟩ := hown.put hk us hu
  exact wpList_store_mid hgd e x y ho g (k * sz) us.toArray hx hy (by simpa [hu] using hown.there hk) (by simp [h2, h4, hu]) (all_oneCell_toArray h1) (h _ r1 r2)
end

/-- The first k copied. -/
def mixed {α : Type} (enc : α → List Value) (z : List Value) (xs : List α) (k : Nat) : List (List Value) := (xs.take k).map enc ++ List.replicate (xs.length - k) z
theorem mixed_len {α : Type} {enc : α → List Value} {z : List Value} {xs : List α} {k : Nat} (h : k ≤ xs.length) : (mixed enc z xs k).length = xs.length := by simp [mixed]; omega
theorem mixed_zero {α : Type} (enc : α → List Value) (z : List Value) (xs : List α) : mixed enc z xs 0 = List.replicate xs.length z := by simp [mixed]
theorem mixed_all {α : Type} (enc : α → List Value) (z : List Value) (xs : List α) : mixed enc z xs xs.length = xs.map enc := by simp [mixed]
theorem mixed_set {α : Type} (enc : α → List Value) (z : List Value) (xs : List α) (k : Nat) (h : k < xs.length) : (mixed enc z xs k).set k (enc xs[k]) = mixed enc z xs (k + 1) := by
  unfold mixed
  rw [List.take_succ_eq_append_getElem h, List.set_append_right _ _ (by simp; omega)]
  have e : xs.length - k = (xs.length - (k + 1)) + 1 := by omega
  rw [e, List.replicate_succ]
  simp only [List.map_append, List.map_cons, List.map_nil, List.append_assoc, List.length_map, List.length_take, Nat.min_eq_left (Nat.le_of_lt h), Nat.sub_self, List.set_cons_zero, List.cons_append, List.nil_append]

/-- A literal of the call's own: its block is the world's newest. -/
theorem Row.lit (w : World) (e : TypeId) (sz : Nat) (ys : List (List Value)) (hy : ∀ y ∈ ys, y.length = sz) (hm : ys.length ≤ maxLen) {base : Nat} (hb : base ≤ w.heap.size) (cs : Array Value) (hcs : cs = ys.flatten.toArray) :
    Row base e sz (w.alloc (.cells cs e)) (.slice (some ⟨w.heap.size, 0, none⟩) ys.length ys.length) ys := by
  subst hcs
  refine ⟨hy, ?_⟩
  have := World.ownsRow_lit (base := base) (e := e) (size := sz) w ys.flatten.toArray ys.length hb hm (by simpa using flat_len sz ys hy)
  simpa using this
theorem Row.lit_nil (w : World) (e : TypeId) (sz : Nat) {base : Nat} (hb : base ≤ w.heap.size) : Row base e sz (w.alloc (.cells #[] e)) (.slice (some ⟨w.heap.size, 0, none⟩) 0 0) [] :=
  Row.lit w e sz [] (by simp) (Nat.zero_le _) hb #[] rfl
/-- The literal of one element that an append takes. -/
theorem Src.one (w : World) (e : TypeId) (cs : List Value) (h1 : ∀ u ∈ cs, u.oneCell' = true) : Src (w.alloc (.cells cs.toArray e)) cs.length (some ⟨w.heap.size, 0, none⟩) 1 [cs] := by
  refine ⟨rfl, fun y hy => ?_, fun _ => ⟨_, 0, rfl, fun k hk => ?_⟩⟩
  · obtain rfl : y = cs := by simpa using hy
    exact ⟨rfl, h1⟩
  · obtain rfl : k = 0 := by simpa using hk
    simpa using rangeAt_new w cs e
/-- A row that reads as a list is what an append takes. -/
theorem Src.of_sl {α : Type} {enc : α → List Value} {sz : Nat} {w : World} {A : Option Addr} {n c : Nat} {xs : List α} (h : Sl (Flat enc) sz w (.slice A n c) xs) (hl : ∀ x, (enc x).length = sz) (h1 : ∀ x, ∀ u ∈ enc x, u.oneCell' = true) :
    Src w sz A n (xs.map enc) := by
  obtain ⟨A', c', hv, hc, hm, hk⟩ := h
  simp only [Value.slice.injEq] at hv
  obtain ⟨rfl, rfl, rfl⟩ := hv
  refine ⟨by simp, fun y hy => ?_, fun hn => ?_⟩
  · obtain ⟨x, _, rfl⟩ := List.mem_map.1 hy
    exact ⟨hl x, h1 x⟩
  · obtain ⟨b, off, hA, hk⟩ := hk hn
    refine ⟨b, off, hA, fun k hk' => ?_⟩
    obtain ⟨cs, _, h3, rfl⟩ := hk k (by simpa using hk')
    simpa using h3
#print axioms Ty.append
#print axioms Ty.store
#print axioms Ty.make
end Go.Proofs.Ythhlfkeikcmnlaa
/- copy at elements of several cells, into a row of the call's own. No condition. -/
namespace Go.Proofs.Ythhlfkeikcmnlaa
open Go Go.RowKit

/-- A guard: the operation is a copy. -/
theorem at_copy_ {P : Program} {ops : Array Oper} {Q : Exit → Act → World → Prop} {d : Option Tmp} {x y : Operand} {t t' ty : TypeId} {pos : String} {af : Array Edge} {g : Option (Nat × Bool)} {rest : List Oper} {a : Act} {w : World}
    (h : wpList P ops Q (⟨d, .call { callee := .builtin .copy, args := #[x, y], argTypes := #[t, t'] }, ty, pos, af, g⟩ :: rest) a w) :
    wpList P ops Q (⟨d, .call { callee := .builtin .copy, args := #[x, y], argTypes := #[t, t'] }, ty, pos, af, g⟩ :: rest) a w := h
section
variable {P : Program} {t e : TypeId} {zv : Value} {z : List Value} {sz bytes : Nat}
theorem flatten_take (sz : Nat) : ∀ (ys : List (List Value)) (_ : ∀ y ∈ ys, y.length = sz) (k : Nat), ys.flatten.take (k * sz) = (ys.take k).flatten
  | [], _, k => by simp
  | y :: ys, h, 0 => by simp
  | y :: ys, h, k + 1 => by
    have hy := h y (by simp)
    rw [List.flatten_cons, List.take_append, List.take_of_length_le (by rw [hy, Nat.add_mul]; omega), hy,
      show (k + 1) * sz - sz = k * sz by rw [Nat.add_mul]; omega, flatten_take sz ys (fun z hz => h z (by simp [hz])) k]
    simp
theorem flatten_drop (sz : Nat) : ∀ (ys : List (List Value)) (_ : ∀ y ∈ ys, y.length = sz) (k : Nat), ys.flatten.drop (k * sz) = (ys.drop k).flatten
  | [], _, k => by simp
  | y :: ys, h, 0 => by simp
  | y :: ys, h, k + 1 => by
    have hy := h y (by simp)
    rw [List.flatten_cons, List.drop_append, List.drop_of_length_le (by rw [hy, Nat.add_mul]; omega), hy,
      show (k + 1) * sz - sz = k * sz by rw [Nat.add_mul]; omega, flatten_drop sz ys (fun z hz => h z (by simp [hz])) k]
    simp

theorem copy_run (T : Ty P t e zv z sz bytes) {w : World} {base g n cap : Nat} {ys : List (List Value)} (hown : Row base e sz w (.slice (some ⟨g, 0, none⟩) n cap) ys) (t' ty : TypeId) (k dLen dCap : Nat) (dp : Option Addr) (A : Option Addr) (m c : Nat)
    (news : List (List Value)) (hn : news.length = Nat.min m dLen) (hpos : 0 < news.length → dp = some ⟨g, k * sz, none⟩ ∧ ∃ b off, A = some ⟨b, off, none⟩ ∧ ∀ i (h : i < news.length), w.rangeAt b (off + i * sz) news[i])
    (hy : ∀ y ∈ news, y.length = sz ∧ ∀ u ∈ y, u.oneCell' = true) (hfit : k + news.length ≤ ys.length) :
    ∃ w', (Builtin.copy_ #[t, t'] ty #[.slice dp dLen dCap, .slice A m c]).run P w = .ok (goInt news.length) w' ∧ Row base e sz w' (.slice (some ⟨g, 0, none⟩) n cap) (ys.take k ++ news ++ ys.drop (k + news.length)) ∧ w.grownBy w' (some g) := by
  obtain ⟨i, h2, h3, h4, h5⟩ := info_parts T.hi
  by_cases h0 : 0 < news.length
  · obtain ⟨rfl, b, off, rfl, hk⟩ := hpos h0
    have hfl := flat_len sz news (fun y h => (hy y h).1)
    have hl := run_loadCells_list (P := P) w ⟨b, off, none⟩ news.flatten (fun j u hu => by
      have hj : j < news.length * sz := by rw [← hfl]; exact (List.getElem?_eq_some_iff.1 hu).1
      have hkk : j / sz < news.length := Nat.div_lt_of_lt_mul (by rw [Nat.mul_comm]; exact hj)
      have hjj : j % sz < sz := Nat.mod_lt _ T.pos
      have e1 : j = j / sz * sz + j % sz := by rw [Nat.mul_comm]; exact (Nat.div_add_mod _ _).symm
      rw [e1, flat_get sz news (fun y h => (hy y h).1) _ _ hkk hjj] at hu
      have := hk (j / sz) hkk (j % sz) u hu
      rw [Addr.add_mid]
      rw [show off + j = off + j / sz * sz + j % sz from by omega]
      exact this)
    rcases hown.2.2 with ⟨h', _⟩ | ⟨g', cap', cur, h', hb, hg, hnc, hcm, hcs, htake⟩
    · simp at h'
    · simp only [Value.slice.injEq, Option.some.injEq, Addr.mk.injEq, and_true] at h'
      obtain ⟨rfl, hnn, rfl⟩ := h'
      have hle : (k + news.length) * sz ≤ ys.length * sz := Nat.mul_le_mul_right _ hfit
      have hle2 : ys.length * sz ≤ cap * sz := Nat.mul_le_mul_right _ hnc
      have e0 : (k + news.length) * sz = k * sz + news.length * sz := Nat.add_mul _ _ _
      rw [hfl] at hl
      have hst := run_storeCells_at P g (k * sz) e news.flatten 0 cur w hg (by rw [hfl]; omega) (fun u hu => by
        obtain ⟨y, hy1, hy2⟩ := List.mem_flatten.1 hu
        exact (hy y hy1).2 u hy2)
      subst hnn
      have hL : (cur.toList.take (k * sz + 0) ++ news.flatten ++ cur.toList.drop (k * sz + 0 + news.flatten.length)).length = cap * sz := by
        simp only [List.length_append, List.length_take, List.length_drop, hfl, Array.length_toList, hcs]; omega
      have hf : (ys.take k ++ news ++ ys.drop (k + news.length)).flatten = ys.flatten.take (k * sz) ++ news.flatten ++ ys.flatten.drop ((k + news.length) * sz) := by
        rw [flatten_take sz ys hown.1, flatten_drop sz ys hown.1]; simp
      have hnl : (ys.take k ++ news ++ ys.drop (k + news.length)).length = ys.length := by simp; omega
      have hy' : ∀ y ∈ ys.take k ++ news ++ ys.drop (k + news.length), y.length = sz := by
        intro y hy'
        rcases List.mem_append.1 hy' with hy' | hy'
        · rcases List.mem_append.1 hy' with hy' | hy'
          · exact hown.1 y (List.mem_of_mem_take hy')
          · exact (hy y hy').1
        · exact hown.1 y (List.mem_of_mem_drop hy')
      have ht : (cur.toList.take (k * sz + 0) ++ news.flatten ++ cur.toList.drop (k * sz + 0 + news.flatten.length)).take (ys.length * sz) = (ys.take k ++ news ++ ys.drop (k + news.length)).flatten := by
        rw [hf, ← htake, List.take_take, List.drop_take, Nat.min_eq_left (by omega), Nat.add_zero, hfl, ← e0]
        rw [List.take_append, List.take_of_length_le (by simp only [List.length_append, List.length_take, hfl, Array.length_toList, hcs]; omega)]
        congr 2
        simp only [List.length_append, List.length_take, hfl, Array.length_toList, hcs]; omega
      refine ⟨w.setRow g (cur.toList.take (k * sz + 0) ++ news.flatten ++ cur.toList.drop (k * sz + 0 + news.flatten.length)).toArray, ?_, ⟨hy', ?_⟩, ?_⟩
      · simp [Builtin.copy_, run_underlying T.ht, Builtin.lenOf, Builtin.firstCells, sizeOf, typeInfo, h2, h4, ← hn, hl, hst]
      · rw [hnl]
        refine ⟨by rw [flat_len sz _ hy', hnl], .inr ⟨g, cap, _, rfl, hb, setRow_heap w g cur _ e _ hg, hnc, hcm, by simpa using hL, by simpa using ht⟩⟩
      · exact ⟨rfl, rfl, rfl, by simp [World.setRow], fun j _ hj => setRow_other w g j _ (fun e => hj (by simp [e]))⟩
  · obtain rfl : news = [] := List.eq_nil_of_length_eq_zero (by omega)
    refine ⟨w, ?_, by simpa using hown, World.grownBy.refl _ _⟩
    cases dp <;> cases A <;> simp [Builtin.copy_, run_underlying T.ht, Builtin.lenOf, Builtin.firstCells, sizeOf, typeInfo, h2, ← hn, loadCells, loadCellsFrom, storeCells]

theorem zeroCells_flat (z : List Value) (n : Nat) (hz : 0 < z.length) : (Builtin.zeroCells z.toArray n).toList = (List.replicate n z).flatten := by
  rw [← madeCells_flat z n hz]
  simp [Builtin.zeroCells, madeCells]

/-- The first k elements of a row are a row. -/
theorem Row.prefix_ {w : World} {base g n cap k : Nat} {ys : List (List Value)} (h : Row base e sz w (.slice (some ⟨g, 0, none⟩) n cap) ys) (hk : k ≤ ys.length) : Row base e sz w (.slice (some ⟨g, 0, none⟩) k cap) (ys.take k) := by
  have hy : ∀ y ∈ ys.take k, y.length = sz := fun y hy => h.1 y (List.mem_of_mem_take hy)
  refine ⟨hy, by rw [flat_len sz _ hy], ?_⟩
  rcases h.2.2 with ⟨h', _⟩ | ⟨g', cap', cur, h', hb, hg, hnc, hcm, hcs, htake⟩
  · simp at h'
  · simp only [Value.slice.injEq, Option.some.injEq, Addr.mk.injEq, and_true] at h'
    obtain ⟨rfl, hnn, rfl⟩ := h'
    have hkl : (ys.take k).length = k := by simp; omega
    rw [hkl]
    refine .inr ⟨g, cap, cur, rfl, hb, hg, by omega, hcm, hcs, ?_⟩
    have hle : k * sz ≤ ys.length * sz := Nat.mul_le_mul_right _ hk
    rw [← flatten_take sz ys h.1, ← htake, List.take_take, Nat.min_eq_left hle]

/-- append(s, make([]T, m)...) where there is no room. -/
theorem append_zeros (T : Ty P t e zv z sz bytes) {w : World} {base g n cap : Nat} {ys : List (List Value)} (hown : Row base e sz w (.slice (some ⟨g, 0, none⟩) n cap) ys) (tn ty : TypeId) {kn kk : IntKind} (htn : P.underlying tn = some (.int kn)) (m : Nat)
    (hroom : cap < ys.length + m) (hn : ys.length + m ≤ 2147483648) (hb : base ≤ w.heap.size) :
    ∃ c w', (Builtin.append_ #[t, tn] ty #[.slice (some ⟨g, 0, none⟩) n cap, .int kk (m : Int)]).run P w = .ok (.slice (some ⟨w.heap.size, 0, none⟩) (ys.length + m) c) w' ∧
      Row base e sz w' (.slice (some ⟨w.heap.size, 0, none⟩) (ys.length + m) c) (ys ++ List.replicate m z) ∧ Below w.heap.size w w' ∧ w.heap.size < w'.heap.size := by
  obtain ⟨i, h2, h3, h4, h5⟩ := info_parts T.hi
  have hnl : n = ys.length := hown.none_len
  subst hnl
  have hcap := hown.2.2
  have h0 : 0 < m := by
    rcases hown.2.2 with ⟨h', _⟩ | ⟨g', cap', cur, h', _, _, hnc, _⟩ <;> simp at h'
    omega
  have hsm : (ys.length + m) * bytes ≤ 2147483648 * 65536 := Nat.mul_le_mul hn T.small
  have hnc : ¬ (ys.length + m ≤ cap) := by omega
  have hw : IntKind.i64.wrap (m : Int) = m := by rw [IntKind.wrap_i64]; omega
  have hneg : ¬ ((m : Int) < 0) := by omega
  have hns : ¬ (m * i.size = 0) := Nat.mul_ne_zero (by omega) (by rw [h4]; have := T.pos; omega)
  have hmb : m * bytes ≤ (ys.length + m) * bytes := Nat.mul_le_mul_right _ (by omega)
  have h48i : ¬ (281474976710656 < (m : Int) * (i.bytes : Int)) := by
    rw [← Int.natCast_mul, h5]
    omega
  have h63' : ¬ (9223372036854775807 < ((ys.length : Int) + (m : Int))) := by omega
  have h48' : ¬ (281474976710656 < Builtin.nextslicecap (ys.length + m) cap * i.bytes) := by
    rw [h5]
    have := growslice_fits (need := ys.length + m) (old := cap) (bytes := bytes) (by omega) (by omega)
    omega
  have hf := run_firstCells_some (P := P) w.drew i.size ys.length ⟨g, 0, none⟩ ys.length cap ys.flatten (by rw [h4]; exact flat_len sz ys hown.1) (by simpa using hown.2.cells (g := g) rfl)
  have hz0 : zv.cells.size = sz := by rw [T.hz]; simpa using T.hzl
  have hzf := zeroCells_flat z m (by rw [T.hzl]; exact T.pos)
  have hge := grownCap_ge w (ys.length + m) cap e
  have hcm : grownCap w (ys.length + m) cap e ≤ maxLen := grownCap_le_maxLen w (ys.length + m) cap e (by unfold maxLen; omega)
  have hy : ∀ y ∈ ys ++ List.replicate m z, y.length = sz := by
    intro y hy
    rcases List.mem_append.1 hy with hy | hy
    · exact hown.1 y hy
    · rw [(List.mem_replicate.1 hy).2, T.hzl]
  have hfl := flat_len sz _ hy
  have hl : (ys ++ List.replicate m z).length = ys.length + m := by simp
  rw [hl] at hfl
  refine ⟨grownCap w (ys.length + m) cap e, w.drew.alloc (.cells (ys.flatten.toArray ++ Builtin.zeroCells zv.cells m ++ Builtin.zeroCells zv.cells (grownCap w (ys.length + m) cap e - (ys.length + m))) e), ?_, ⟨hy, ?_⟩, ?_, ?_⟩
  · simp [Builtin.append_, run_underlying T.ht, run_underlying htn, sizeOf, typeInfo, zeroValue, h2, h3, asInt, asIntOf, hw, hnc, hneg, hns, h63', h48', h48i, Question.forced, hf, newRow, grownCap]
  · rw [hl]
    refine ⟨hfl, .inr ⟨w.heap.size, _, _, rfl, hb, heap_alloc_new w.drew _, hge, hcm, ?_, ?_⟩⟩
    · simp only [Array.size_append, List.size_toArray, size_zeroCells, hz0, flat_len sz ys hown.1, ← Nat.add_mul]
      congr 1
      omega
    · rw [T.hz]
      simp only [Array.toList_append, hzf, List.append_assoc]
      rw [← List.append_assoc, ← List.flatten_append, ← hfl]
      exact List.take_left
  · exact ⟨rfl, rfl, rfl, by simp, fun k hk => heap_alloc_old w.drew _ hk⟩
  · simp

/-- append(s, make([]T, m)...) at the operation, where there is no room; s the first ys of a row. -/
theorem Ty.appendZeros (T : Ty P t e zv z sz bytes) {w : World} {ops : Array Oper} {rest : List Oper} {o : Oper} {a : Act} {Q : Exit → Act → World → Prop} (hgd : o.guard = none) (s x : Operand) (tn : TypeId) {kn : IntKind} (htn : P.underlying tn = some (.int kn))
    (ho : o.op = .call { callee := .builtin .append, args := #[s, x], argTypes := #[t, tn] })
    (base g n cap : Nat) (ys : List (List Value)) (hs : a.eval s = .slice (some ⟨g, 0, none⟩) n cap) (hown : Row base e sz w (.slice (some ⟨g, 0, none⟩) n cap) ys) (kk : IntKind) (M : Int) (m : Nat) (hx : a.eval x = .int kk M) (hM : M = (m : Int))
    (hroom : cap < ys.length + m) (hn : ys.length + m ≤ 2147483648) (hb : base ≤ w.heap.size)
    (h : ∀ c w', Row base e sz w' (.slice (some ⟨w.heap.size, 0, none⟩) (ys.length + m) c) (ys ++ List.replicate m z) → Below w.heap.size w w' → w.heap.size < w'.heap.size → wpList P ops Q rest (a.put o.dst (.slice (some ⟨w.heap.size, 0, none⟩) (ys.length + m) c)) w') : wpList P ops Q (o :: rest) a w := by
  subst hM
  refine wpList_plain hgd fun K hK => ?_
  obtain ⟨c, w', hrun, h2, h3, h4⟩ := append_zeros T (kk := kk) hown tn o.type htn m hroom hn hb
  unfold Oper.wp execOp
  simp only [ho, resolve, invoke, builtin, Sem.run_bind, Sem.run_pure, Result.andThen_ok, List.map_toArray, List.map_cons, List.map_nil, hs, hx, hrun]
  exact hK _ _ (h c w' h2 h3 h4)

/-- copy(d, s) at the operation, d inside a row of the call's own. -/
theorem Ty.copy (T : Ty P t e zv z sz bytes) {w : World} {ops : Array Oper} {rest : List Oper} {o : Oper} {a : Act} {Q : Exit → Act → World → Prop} (hgd : o.guard = none) (d s : Operand) (t' : TypeId)
    (ho : o.op = .call { callee := .builtin .copy, args := #[d, s], argTypes := #[t, t'] })
    (base g n cap : Nat) (ys : List (List Value)) (hown : Row base e sz w (.slice (some ⟨g, 0, none⟩) n cap) ys) (k dLen dCap : Nat) (dp : Option Addr) (hd : a.eval d = .slice dp dLen dCap) (A : Option Addr) (m c : Nat) (hs : a.eval s = .slice A m c)
    (news : List (List Value)) (hn : news.length = Nat.min m dLen) (hpos : 0 < news.length → dp = some ⟨g, k * sz, none⟩ ∧ ∃ b off, A = some ⟨b, off, none⟩ ∧ ∀ i (h : i < news.length), w.rangeAt b (off + i * sz) news[i])
    (hy : ∀ y ∈ news, y.length = sz ∧ ∀ u ∈ y, u.oneCell' = true) (hfit : k + news.length ≤ ys.length)
    (h : ∀ w', Row base e sz w' (.slice (some ⟨g, 0, none⟩) n cap) (ys.take k ++ news ++ ys.drop (k + news.length)) → w.grownBy w' (some g) → wpList P ops Q rest (a.put o.dst (goInt news.length)) w') : wpList P ops Q (o :: rest) a w := by
  refine wpList_plain hgd fun K hK => ?_
  obtain ⟨w', hrun, h2, h3⟩ := copy_run T hown t' o.type k dLen dCap dp A m c news hn hpos hy hfit
  unfold Oper.wp execOp
  simp only [ho, resolve, invoke, builtin, Sem.run_bind, Sem.run_pure, Result.andThen_ok, List.map_toArray, List.map_cons, List.map_nil, hd, hs, hrun]
  exact hK _ _ (h w' h2 h3)

/-- The same as one step of a region that draws. -/
theorem Ty.stepCopy (T : Ty P t e zv z sz bytes) {w : World} {ops : Array Oper} {o : Oper} {a : Act} {K : Act → World → Prop} {Q : Exit → Act → World → Prop} {E : Prop} (hgd : o.guard = none) (d s : Operand) (t' : TypeId)
    (ho : o.op = .call { callee := .builtin .copy, args := #[d, s], argTypes := #[t, t'] })
    (base g n cap : Nat) (ys : List (List Value)) (hown : Row base e sz w (.slice (some ⟨g, 0, none⟩) n cap) ys) (k dLen dCap : Nat) (dp : Option Addr) (hd : a.eval d = .slice dp dLen dCap) (A : Option Addr) (m c : Nat) (hs : a.eval s = .slice A m c)
    (news : List (List Value)) (hn : news.length = Nat.min m dLen) (hpos : 0 < news.length → dp = some ⟨g, k * sz, none⟩ ∧ ∃ b off, A = some ⟨b, off, none⟩ ∧ ∀ i (h : i < news.length), w.rangeAt b (off + i * sz) news[i])
    (hy : ∀ y ∈ news, y.length = sz ∧ ∀ u ∈ y, u.oneCell' = true) (hfit : k + news.length ≤ ys.length)
    (h : ∀ w', Row base e sz w' (.slice (some ⟨g, 0, none⟩) n cap) (ys.take k ++ news ++ ys.drop (k + news.length)) → w.grownBy w' (some g) → K (a.put o.dst (goInt news.length)) w') :
    if Region.wanted o (yielded ops a.tmps) = true then Oper.wp P o a w K Q else E := by
  have hw : Region.wanted o (yielded ops a.tmps) = true := by simp [Region.wanted, hgd]
  rw [if_pos hw]
  obtain ⟨w', hrun, h2, h3⟩ := copy_run T hown t' o.type k dLen dCap dp A m c news hn hpos hy hfit
  unfold Oper.wp execOp
  simp only [ho, resolve, invoke, builtin, Sem.run_bind, Sem.run_pure, Result.andThen_ok, List.map_toArray, List.map_cons, List.map_nil, hd, hs, hrun]
  exact h w' h2 h3
/-- clear of the last m elements of a row. -/
theorem clear_run (T : Ty P t e zv z sz bytes) (hz1 : ∀ u ∈ z, u.oneCell' = true) {w : World} {base g n cap : Nat} {ys : List (List Value)} (hown : Row base e sz w (.slice (some ⟨g, 0, none⟩) n cap) ys) (ty : TypeId) (k m c : Nat) (dp : Option Addr)
    (hm : k + m = ys.length) (hdp : 0 < m → dp = some ⟨g, k * sz, none⟩) :
    ∃ w', (Builtin.clear_ #[t] ty #[.slice dp m c]).run P w = .ok (.tuple #[]) w' ∧ Row base e sz w' (.slice (some ⟨g, 0, none⟩) n cap) (ys.take k ++ List.replicate m z) ∧ w.grownBy w' (some g) := by
  obtain ⟨i, h2, h3, h4, h5⟩ := info_parts T.hi
  by_cases h0 : 0 < m
  · obtain rfl := hdp h0
    have hzf := zeroCells_flat z m (by rw [T.hzl]; exact T.pos)
    have hzy : ∀ y ∈ List.replicate m z, y.length = sz := fun y hy => by rw [(List.mem_replicate.1 hy).2, T.hzl]
    have hfl := flat_len sz _ hzy
    simp only [List.length_replicate] at hfl
    rcases hown.2.2 with ⟨h', _⟩ | ⟨g', cap', cur, h', hb, hg, hnc, hcm, hcs, htake⟩
    · simp at h'
    · simp only [Value.slice.injEq, Option.some.injEq, Addr.mk.injEq, and_true] at h'
      obtain ⟨rfl, hnn, rfl⟩ := h'
      have e0 : ys.length * sz = k * sz + m * sz := by rw [← hm, Nat.add_mul]
      have hle2 : ys.length * sz ≤ cap * sz := Nat.mul_le_mul_right _ hnc
      have hst := run_storeCells_at P g (k * sz) e (List.replicate m z).flatten 0 cur w hg (by rw [hfl]; omega) (fun u hu => by
        obtain ⟨y, hy1, hy2⟩ := List.mem_flatten.1 hu
        rw [(List.mem_replicate.1 hy1).2] at hy2
        exact hz1 u hy2)
      subst hnn
      have hy' : ∀ y ∈ ys.take k ++ List.replicate m z, y.length = sz := by
        intro y hy'
        rcases List.mem_append.1 hy' with hy' | hy'
        · exact hown.1 y (List.mem_of_mem_take hy')
        · exact hzy y hy'
      have hnl : (ys.take k ++ List.replicate m z).length = ys.length := by simp; omega
      have ht : (cur.toList.take (k * sz + 0) ++ (List.replicate m z).flatten ++ cur.toList.drop (k * sz + 0 + (List.replicate m z).flatten.length)).take (ys.length * sz) = (ys.take k ++ List.replicate m z).flatten := by
        rw [List.flatten_append, ← flatten_take sz ys hown.1, ← htake, List.take_take, Nat.add_zero, Nat.min_eq_left (by omega), List.take_append, List.take_of_length_le (by simp only [List.length_append, List.length_take, hfl, Array.length_toList, hcs]; omega)]
        have : ys.length * sz - (cur.toList.take (k * sz) ++ (List.replicate m z).flatten).length = 0 := by simp only [List.length_append, List.length_take, hfl, Array.length_toList, hcs]; omega
        rw [this]
        simp
      refine ⟨w.setRow g (cur.toList.take (k * sz + 0) ++ (List.replicate m z).flatten ++ cur.toList.drop (k * sz + 0 + (List.replicate m z).flatten.length)).toArray, ?_, ⟨hy', ?_⟩, ?_⟩
      · obtain ⟨q, rfl⟩ : ∃ q, m = q + 1 := ⟨m - 1, by omega⟩
        rw [← hzf, ← T.hz] at hst
        have hrun : (Builtin.clear_ #[t] ty #[.slice (some ⟨g, k * sz, none⟩) (q + 1) c]).run P w = (Sem.run P (storeCells ⟨g, k * sz, none⟩ (Builtin.zeroCells zv.cells (q + 1)).toList) w).andThen fun _ w' => Result.ok (Value.tuple #[]) w' := by
          simp [Builtin.clear_, run_underlying T.ht, zeroValue, typeInfo, h2, h3]
        rw [hrun, hst, ← hzf, ← T.hz]
        rfl
      · rw [hnl]
        refine ⟨by rw [flat_len sz _ hy', hnl], .inr ⟨g, cap, _, rfl, hb, setRow_heap w g cur _ e _ hg, hnc, hcm, ?_, by simpa using ht⟩⟩
        simp only [List.size_toArray, List.length_append, List.length_take, List.length_drop, hfl, Array.length_toList, hcs]; omega
      · exact ⟨rfl, rfl, rfl, by simp [World.setRow], fun j _ hj => setRow_other w g j _ (fun e => hj (by simp [e]))⟩
  · obtain rfl : m = 0 := by omega
    obtain rfl : k = ys.length := by omega
    refine ⟨w, ?_, by simpa using hown, World.grownBy.refl _ _⟩
    cases dp <;> simp [Builtin.clear_, run_underlying T.ht]

/-- clear at the operation. -/
theorem Ty.clear (T : Ty P t e zv z sz bytes) (hz1 : ∀ u ∈ z, u.oneCell' = true) {w : World} {ops : Array Oper} {rest : List Oper} {o : Oper} {a : Act} {Q : Exit → Act → World → Prop} (hgd : o.guard = none) (d : Operand)
    (ho : o.op = .call { callee := .builtin .clear, args := #[d], argTypes := #[t] })
    (base g n cap : Nat) (ys : List (List Value)) (hown : Row base e sz w (.slice (some ⟨g, 0, none⟩) n cap) ys) (k m c : Nat) (dp : Option Addr) (hd : a.eval d = .slice dp m c) (hm : k + m = ys.length) (hdp : 0 < m → dp = some ⟨g, k * sz, none⟩)
    (h : ∀ w', Row base e sz w' (.slice (some ⟨g, 0, none⟩) n cap) (ys.take k ++ List.replicate m z) → w.grownBy w' (some g) → wpList P ops Q rest (a.put o.dst (.tuple #[])) w') : wpList P ops Q (o :: rest) a w := by
  refine wpList_plain hgd fun K hK => ?_
  obtain ⟨w', hrun, h2, h3⟩ := clear_run T hz1 hown o.type k m c dp hm hdp
  unfold Oper.wp execOp
  simp only [ho, resolve, invoke, builtin, Sem.run_bind, Sem.run_pure, Result.andThen_ok, List.map_toArray, List.map_cons, List.map_nil, hd, hrun]
  exact hK _ _ (h w' h2 h3)
/-- A guard: the operation is a clear. -/
theorem at_clear_ {P : Program} {ops : Array Oper} {Q : Exit → Act → World → Prop} {d : Option Tmp} {x : Operand} {t ty : TypeId} {pos : String} {af : Array Edge} {g : Option (Nat × Bool)} {rest : List Oper} {a : Act} {w : World}
    (h : wpList P ops Q (⟨d, .call { callee := .builtin .clear, args := #[x], argTypes := #[t] }, ty, pos, af, g⟩ :: rest) a w) :
    wpList P ops Q (⟨d, .call { callee := .builtin .clear, args := #[x], argTypes := #[t] }, ty, pos, af, g⟩ :: rest) a w := h
end
end Go.Proofs.Ythhlfkeikcmnlaa
/- Rows in regions that draw their order: one append as a step, sources that stay. No condition. -/
namespace Go.Proofs.Ythhlfkeikcmnlaa
open Go Go.RowKit

section
variable {P : Program} {t e : TypeId} {zv : Value} {z : List Value} {sz bytes : Nat}
/-- A row of the call's own, the call begun in w0. -/
def Own (w0 : World) (e : TypeId) (sz : Nat) (w : World) (v : Value) (ys : List (List Value)) : Prop := Row w0.heap.size e sz w v ys ∧ Below w0.heap.size w0 w
theorem Own.b {w0 w : World} {v : Value} {ys : List (List Value)} (h : Own w0 e sz w v ys) : Below w0.heap.size w0 w := h.2
theorem Own.alloc {w0 w : World} {v : Value} {ys : List (List Value)} (h : Own w0 e sz w v ys) (o : Obj) : Own w0 e sz (w.alloc o) v ys := ⟨h.1.alloc o, h.2.alloc h.2.size o⟩
theorem Own.drew {w0 w : World} {v : Value} {ys : List (List Value)} (h : Own w0 e sz w v ys) : Own w0 e sz w.drew v ys := ⟨h.1.drew, h.2.drew⟩
theorem Own.below {w0 w w' : World} {v : Value} {ys : List (List Value)} (h : Own w0 e sz w v ys) (hb : Below w.heap.size w w') : Own w0 e sz w' v ys := ⟨h.1.below hb, step_ h.2 (Nat.le_refl _) hb⟩
theorem below_alloc {w0 w : World} (h : Below w0.heap.size w0 w) (o : Obj) : Below w0.heap.size w0 (w.alloc o) := h.alloc h.size o
theorem Own.nil {w0 w : World} (h : Below w0.heap.size w0 w) (g : Nat) (hg : w.heap.size = g) : Own w0 e sz (w.alloc (.cells #[] e)) (.slice (some ⟨g, 0, none⟩) 0 0) [] := by
  subst hg
  exact ⟨Row.lit_nil w e sz h.size, h.alloc h.size _⟩
theorem Own.ne_new {w0 w : World} {v : Value} {ys : List (List Value)} (h : Own w0 e sz w v ys) (g : Nat) (hg : w.heap.size ≤ g) : v.ownBlock ≠ some g := fun he => by
  have := (h.1.lt g he).2
  omega
/-- Groups in memory that was there when the call began. -/
def Old (w0 : World) (sz : Nat) (A : Option Addr) (m : Nat) (news : List (List Value)) : Prop := Src w0 sz A m news
theorem Old.now {w0 w : World} {A : Option Addr} {m : Nat} {news : List (List Value)} (h : Old w0 sz A m news) (hb : Below w0.heap.size w0 w) : Src w sz A m news := by
  refine ⟨h.1, h.2.1, fun hm => ?_⟩
  obtain ⟨b, off, hA, hk⟩ := h.2.2 hm
  exact ⟨b, off, hA, fun k hk' => rangeAt_below (hk k hk') hb⟩
/-- One group, laid down in the region itself. -/
theorem Src.lit (W : World) (e : TypeId) (cs : List Value) (g : Nat) (hg : W.heap.size = g) (hsz : cs.length = sz) (h1 : ∀ u ∈ cs, u.oneCell' = true) : Src (W.alloc (.cells cs.toArray e)) sz (some ⟨g, 0, none⟩) 1 [cs] := by
  subst hg hsz
  exact Src.one W e cs h1
theorem Src.drew {w : World} {A : Option Addr} {m : Nat} {news : List (List Value)} (h : Src w sz A m news) : Src w.drew sz A m news :=
  ⟨h.1, h.2.1, fun hm => by obtain ⟨b, off, hA, hk⟩ := h.2.2 hm; exact ⟨b, off, hA, fun k hk' => rangeAt_below (hk k hk') (Below.drew (Below.refl _ _))⟩⟩
theorem Src.alloc {w : World} {A : Option Addr} {m : Nat} {news : List (List Value)} (h : Src w sz A m news) (o : Obj) : Src (w.alloc o) sz A m news :=
  ⟨h.1, h.2.1, fun hm => by obtain ⟨b, off, hA, hk⟩ := h.2.2 hm; exact ⟨b, off, hA, fun k hk' => rangeAt_below (hk k hk') (Below.alloc (Below.refl _ _) (Nat.le_refl _) _)⟩⟩
theorem Src.grown {w w' : World} {g : Nat} {m : Nat} {news : List (List Value)} {row : Option Nat} (h : Src w sz (some ⟨g, 0, none⟩) m news) (hg : w.grownBy w' row) (hne : row ≠ some g) : Src w' sz (some ⟨g, 0, none⟩) m news := by
  refine ⟨h.1, h.2.1, fun hm => ?_⟩
  obtain ⟨b, off, hA, hk⟩ := h.2.2 hm
  obtain rfl : g = b := by simpa using congrArg (fun a => a.map Addr.block) hA
  refine ⟨_, off, hA, fun k hk' j u hu => ?_⟩
  have h1 := hk k hk' j u hu
  have hlt := block_lt_of_cell h1
  exact (by
    have := hg.block g hlt (fun e => hne e.symm)
    unfold World.cell? at h1 ⊢
    rw [this]
    exact h1)

/-- append(s, xs...) onto a row of the call's own, as a step of a region that draws. -/
theorem Ty.stepAppend (T : Ty P t e zv z sz bytes) {w0 w : World} {ops : Array Oper} {o : Oper} {a : Act} {K : Act → World → Prop} {Q : Exit → Act → World → Prop} {E : Prop} (hgd : o.guard = none) (s x : Operand)
    (ho : o.op = .call { callee := .builtin .append, args := #[s, x], argTypes := #[t, t] })
    (v : Value) (ys : List (List Value)) (hs : a.eval s = v) (hown : Own w0 e sz w v ys) (A : Option Addr) (m c : Nat) (news : List (List Value)) (hx : a.eval x = .slice A m c) (hsrc : Src w sz A m news)
    (hn : ys.length + m ≤ 2147483648)
    (h : ∀ v' w', Own w0 e sz w' v' (ys ++ news) → w.grownBy w' v.ownBlock → (v'.ownBlock = v.ownBlock ∨ v'.ownBlock = some w.heap.size) → K (a.put o.dst v') w') :
    if Region.wanted o (yielded ops a.tmps) = true then Oper.wp P o a w K Q else E := by
  have hw : Region.wanted o (yielded ops a.tmps) = true := by simp [Region.wanted, hgd]
  rw [if_pos hw]
  obtain ⟨v', w', hrun, h2, h3, h4⟩ := append_run T hown.1 o.type A m c news hsrc hn hown.2.size
  unfold Oper.wp execOp
  simp only [ho, resolve, invoke, builtin, Sem.run_bind, Sem.run_pure, Result.andThen_ok, List.map_toArray, List.map_cons, List.map_nil, hs, hx, hrun]
  exact h v' w' ⟨h2, hown.2.grown h3 hown.2.size (fun q hq => (hown.1.lt q hq).1)⟩ h3 h4
theorem Ty.stepAppendOld (T : Ty P t e zv z sz bytes) {w0 w : World} {ops : Array Oper} {o : Oper} {a : Act} {K : Act → World → Prop} {Q : Exit → Act → World → Prop} {E : Prop} (hgd : o.guard = none) (s x : Operand)
    (ho : o.op = .call { callee := .builtin .append, args := #[s, x], argTypes := #[t, t] })
    (v : Value) (ys : List (List Value)) (hs : a.eval s = v) (hown : Own w0 e sz w v ys) (A : Option Addr) (m c : Nat) (news : List (List Value)) (hx : a.eval x = .slice A m c) (hsrc : Old w0 sz A m news)
    (hn : ys.length + m ≤ 2147483648)
    (h : ∀ v' w', Own w0 e sz w' v' (ys ++ news) → w.grownBy w' v.ownBlock → (v'.ownBlock = v.ownBlock ∨ v'.ownBlock = some w.heap.size) → K (a.put o.dst v') w') :
    if Region.wanted o (yielded ops a.tmps) = true then Oper.wp P o a w K Q else E :=
  T.stepAppend hgd s x ho v ys hs hown A m c news hx (Old.now hsrc hown.2) hn h
/-- A block known whole: a literal. -/
def LitAt (w : World) (g : Nat) (e : TypeId) (cs : List Value) : Prop := w.heap[g]? = some (.cells cs.toArray e (0, 0))
theorem LitAt.new (W : World) (e : TypeId) (cs : List Value) (g : Nat) (hg : W.heap.size = g) : LitAt (W.alloc (.cells cs.toArray e)) g e cs := by
  subst hg
  exact heap_alloc_new W _
theorem LitAt.lt {w : World} {g : Nat} {cs : List Value} (h : LitAt w g e cs) : g < w.heap.size := by
  rcases Nat.lt_or_ge g w.heap.size with h1 | h1
  · exact h1
  · unfold LitAt at h; rw [Array.getElem?_eq_none h1] at h; cases h
theorem LitAt.drew {w : World} {g : Nat} {cs : List Value} (h : LitAt w g e cs) : LitAt w.drew g e cs := h
theorem LitAt.alloc {w : World} {g : Nat} {cs : List Value} (h : LitAt w g e cs) (o : Obj) : LitAt (w.alloc o) g e cs := by
  unfold LitAt
  rw [heap_alloc_old w o h.lt]
  exact h
theorem LitAt.grown {w w' : World} {g : Nat} {cs : List Value} {row : Option Nat} (h : LitAt w g e cs) (hg : w.grownBy w' row) (hne : row ≠ some g) : LitAt w' g e cs := by
  unfold LitAt
  rw [hg.block g h.lt (fun e => hne e.symm)]
  exact h
theorem LitAt.below {w w' : World} {g : Nat} {cs : List Value} (h : LitAt w g e cs) (hb : Below w.heap.size w w') : LitAt w' g e cs := by
  unfold LitAt
  rw [hb.block g h.lt]
  exact h
theorem LitAt.range {w : World} {g : Nat} {cs : List Value} (h : LitAt w g e cs) : w.rangeAt g 0 cs := by
  intro j u hu
  unfold LitAt at h
  simp [World.cell?, h, hu]
theorem LitAt.src {w : World} {g : Nat} {cs : List Value} (h : LitAt w g e cs) (hsz : cs.length = sz) (h1 : ∀ u ∈ cs, u.oneCell' = true) : Src w sz (some ⟨g, 0, none⟩) 1 [cs] := by
  refine ⟨rfl, fun y hy => ?_, fun _ => ⟨_, 0, rfl, fun k hk => ?_⟩⟩
  · obtain rfl : y = cs := by simpa using hy
    exact ⟨hsz, h1⟩
  · obtain rfl : k = 0 := by simpa using hk
    simpa using h.range
theorem LitAt.shape {w : World} {g : Nat} {cs : List Value} (h : LitAt w g e cs) : w.shape? g = some (e, cs.length) := by
  unfold LitAt at h
  simp [World.shape?, h]
theorem LitAt.frozen {w : World} {g : Nat} {cs : List Value} (h : LitAt w g e cs) (o : Nat) : w.frozen? ⟨g, o, none⟩ = false := by
  unfold LitAt at h
  simp [World.frozen?, h]
theorem Row.shape {base : Nat} {w : World} {g n cap : Nat} {ys : List (List Value)} (h : Row base e sz w (.slice (some ⟨g, 0, none⟩) n cap) ys) (hn : 0 < ys.length) (hs : 0 < sz := by decide) : ∃ kB, w.shape? g = some (e, kB) ∧ kB ≠ 0 := by
  rcases h.2.2 with ⟨h', _⟩ | ⟨g', cap', cur, h', hb, hg, hnc, hcm, hcs, htake⟩
  · simp at h'
  · simp only [Value.slice.injEq, Option.some.injEq, Addr.mk.injEq, and_true] at h'
    obtain ⟨rfl, hnn, rfl⟩ := h'
    refine ⟨cur.size, by simp [World.shape?, hg], ?_⟩
    rw [hcs]
    exact Nat.mul_ne_zero (by omega) (by omega)
theorem range_grown_ {w w' : World} {b o : Nat} {cs : List Value} {row : Option Nat} (h : w.rangeAt b o cs) (hg : w.grownBy w' row) (hne : row ≠ some b) : w'.rangeAt b o cs := by
  intro j u hu
  have h1 := h j u hu
  have := hg.block b (block_lt_of_cell h1) (fun e => hne e.symm)
  unfold World.cell? at h1 ⊢
  rw [this]
  exact h1
/-- What writes only to a block that is new is no growth of any old row. -/
theorem grown_old {w w1 w2 : World} {row : Option Nat} (h1 : Below w.heap.size w w1) (h2 : w1.grownBy w2 (some w.heap.size)) : w.grownBy w2 row :=
  ⟨h2.os.trans h1.os, h2.tape.trans h1.tape, h2.output.trans h1.output, Nat.le_trans h1.size h2.size, fun k hk _ => (h2.block k (Nat.lt_of_lt_of_le hk h1.size) (fun e => by simp at e; omega)).trans (h1.block k hk)⟩
/-- A row with room, one longer: what stands in the new place is anything. -/
theorem Row.extend {base : Nat} {w : World} {g n cap : Nat} {ys : List (List Value)} (h : Row base e sz w (.slice (some ⟨g, 0, none⟩) n cap) ys) (hroom : ys.length + 1 ≤ cap) :
    ∃ junk, Row base e sz w (.slice (some ⟨g, 0, none⟩) (ys.length + 1) cap) (ys ++ [junk]) := by
  rcases h.2.2 with ⟨h', _⟩ | ⟨g', cap', cur, h', hb, hg, hnc, hcm, hcs, htake⟩
  · simp at h'
  · simp only [Value.slice.injEq, Option.some.injEq, Addr.mk.injEq, and_true] at h'
    obtain ⟨rfl, hnn, rfl⟩ := h'
    have hle : (ys.length + 1) * sz ≤ cap * sz := Nat.mul_le_mul_right _ hroom
    rw [Nat.add_mul, Nat.one_mul] at hle
    have hj : ((cur.toList.drop (ys.length * sz)).take sz).length = sz := by simp only [List.length_take, List.length_drop, Array.length_toList, hcs]; omega
    have hy : ∀ y ∈ ys ++ [(cur.toList.drop (ys.length * sz)).take sz], y.length = sz := by
      intro y hy
      rcases List.mem_append.1 hy with hy | hy
      · exact h.1 y hy
      · rw [List.mem_singleton.1 hy]; exact hj
    refine ⟨(cur.toList.drop (ys.length * sz)).take sz, hy, ?_⟩
    refine ⟨flat_len sz _ hy, .inr ⟨g, cap, cur, by simp, hb, hg, by simpa using hroom, hcm, hcs, ?_⟩⟩
    rw [List.length_append, List.length_singleton, Nat.add_mul, Nat.one_mul, List.flatten_append, List.take_add, htake]
    simp
theorem Row.parts {base : Nat} {w : World} {v : Value} {ys : List (List Value)} (h : Row base e sz w v ys) : ∃ A c, v = .slice A ys.length c ∧ ys.length ≤ c ∧ c ≤ 9223372036854775807 := by
  rcases h.2.2 with ⟨rfl, hn⟩ | ⟨g, cap, cur, rfl, _, hg, hnc, hcm, hcs, htake⟩
  · exact ⟨_, 0, by rw [hn], by omega, by omega⟩
  · exact ⟨_, cap, rfl, hnc, by simpa [maxLen] using hcm⟩
theorem Src.zero (w : World) (sz : Nat) (A : Option Addr) : Src w sz A 0 [] := ⟨rfl, by simp, fun h => absurd h (by omega)⟩
theorem Src.take {w : World} {A : Option Addr} {m : Nat} {news : List (List Value)} (h : Src w sz A m news) {k : Nat} (hk : k ≤ m) : Src w sz A k (news.take k) := by
  refine ⟨by rw [List.length_take, h.1]; omega, fun y hy => h.2.1 y (List.mem_of_mem_take hy), fun h0 => ?_⟩
  obtain ⟨b, off, hA, hk'⟩ := h.2.2 (by omega)
  refine ⟨b, off, hA, fun j hj => ?_⟩
  rw [List.getElem_take]
  exact hk' j (by simp at hj; omega)
theorem Src.drop {w : World} {A : Option Addr} {m : Nat} {news : List (List Value)} (h : Src w sz A m news) {k : Nat} (hk : k ≤ m) : Src w sz (A.map fun a => a.add (k * sz)) (m - k) (news.drop k) := by
  refine ⟨by rw [List.length_drop, h.1], fun y hy => h.2.1 y (List.mem_of_mem_drop hy), fun h0 => ?_⟩
  obtain ⟨b, off, rfl, hk'⟩ := h.2.2 (by omega)
  refine ⟨b, off + k * sz, ?_, fun j hj => ?_⟩
  · simp [Addr.add]
  · rw [List.getElem_drop]
    have := hk' (k + j) (by simp at hj; omega)
    rw [Nat.add_mul, ← Nat.add_assoc] at this
    exact this
/-- A row of the call's own is what an append takes. -/
theorem Row.src {α : Type} {enc : α → List Value} {base : Nat} {w : World} {A : Option Addr} {n c : Nat} {xs : List α} (h : Row base e sz w (.slice A n c) (xs.map enc)) (hl : ∀ x, (enc x).length = sz) (h1 : ∀ x, ∀ u ∈ enc x, u.oneCell' = true) : Src w sz A n (xs.map enc) :=
  Src.of_sl (Sl.of_flat h) hl h1
/-- What is cut off behind k, the capacity being c. -/
theorem Src.cut {w : World} {A : Option Addr} {m c : Nat} {news : List (List Value)} (h : Src w sz A m news) {k : Nat} (hk : k ≤ m) (hc : m ≤ c) : Src w sz (if c = k then A else A.map fun a => a.add (k * sz)) (m - k) (news.drop k) := by
  by_cases e : c = k
  · rw [if_pos e]
    obtain rfl : m = k := by omega
    have : news.drop m = [] := List.drop_eq_nil_of_le (by rw [h.1]; exact Nat.le_refl _)
    rw [this, Nat.sub_self]
    exact Src.zero _ _ _
  · rw [if_neg e]; exact h.drop hk
end
end Go.Proofs.Ythhlfkeikcmnlaa
/- Worlds in which one block may have changed: what is kept. No condition. -/
namespace Go.Proofs.Ythhlfkeikcmnlaa
open Go Go.RowKit

theorem grown_of {w w' : World} {row : Option Nat} (hb : Below w.heap.size w w') : w.grownBy w' row := ⟨hb.os, hb.tape, hb.output, hb.size, fun q hq _ => hb.block q hq⟩
theorem _root_.Go.World.grownBy.cell_far_ {w w' : World} {row : Option Nat} {b o : Nat} {u : Value} (hg : w.grownBy w' row) (h : w.cell? ⟨b, o, none⟩ = some u) (hne : row ≠ some b) : w'.cell? ⟨b, o, none⟩ = some u := by
  have := hg.block b (block_lt_of_cell h) (fun e => hne e.symm)
  unfold World.cell? at h ⊢
  rw [this]
  exact h
end Go.Proofs.Ythhlfkeikcmnlaa
/- Plain: the first place at which a test holds; lists filtered in place. No condition. -/
namespace Go.Proofs.Ythhlfkeikcmnlaa
open Go Go.RowKit

def idxA {α : Type} (p : α → Bool) (xs : List α) : Int := match xs.findIdx? p with
  | some k => k
  | none => -1
section
variable {α : Type} {p : α → Bool} {xs : List α}
theorem idxA_found {k : Nat} (hk : k < xs.length) (h : p xs[k] = true) (hb : ∀ j (h : j < xs.length), j < k → p xs[j] = false) : idxA p xs = k := by
  have : xs.findIdx? p = some k := by
    rw [List.findIdx?_eq_some_iff_getElem]
    exact ⟨hk, h, fun j hj => by rw [hb j (by omega) hj]; simp⟩
  simp [idxA, this]
theorem idxA_none (hb : ∀ j (h : j < xs.length), p xs[j] = false) : idxA p xs = -1 := by
  have : xs.findIdx? p = none := by
    rw [List.findIdx?_eq_none_iff]
    intro x hx
    obtain ⟨j, hj, rfl⟩ := List.getElem_of_mem hx
    exact hb j hj
  simp [idxA, this]
theorem idxA_cases (p : α → Bool) (xs : List α) : (idxA p xs = -1 ∧ ∀ x ∈ xs, p x = false) ∨ ∃ k, ∃ h : k < xs.length, idxA p xs = (k : Int) ∧ p xs[k] = true ∧ ∀ j (h : j < xs.length), j < k → p xs[j] = false := by
  cases hf : xs.findIdx? p with
  | none =>
    left
    refine ⟨by simp [idxA, hf], ?_⟩
    exact List.findIdx?_eq_none_iff.1 hf
  | some k =>
    right
    obtain ⟨hk, h1, h2⟩ := List.findIdx?_eq_some_iff_getElem.1 hf
    exact ⟨k, hk, by simp [idxA, hf], h1, fun j hj hjk => by simpa using h2 j hjk⟩
theorem idxA_any (p : α → Bool) (xs : List α) : decide (0 ≤ idxA p xs) = xs.any p := by
  rcases idxA_cases p xs with ⟨h, ha⟩ | ⟨k, hk, h, hp, _⟩
  · rw [h]
    have : xs.any p = false := by rw [List.any_eq_false]; intro x hx; rw [ha x hx]; simp
    rw [this]; rfl
  · rw [h]
    have : xs.any p = true := List.any_eq_true.2 ⟨_, List.getElem_mem hk, hp⟩
    rw [this]; simp
theorem filter_first {pr : α → Bool} {i : Nat} (hi : i < xs.length) (h : pr xs[i] = true) (hb : ∀ j (h : j < xs.length), j < i → pr xs[j] = false) : (xs.take (i + 1)).filter (fun x => !pr x) = xs.take i := by
  rw [List.take_succ_eq_append_getElem hi, List.filter_append]
  have h1 : (xs.take i).filter (fun x => !pr x) = xs.take i := List.filter_eq_self.2 fun x hx => by
    obtain ⟨j, hj, rfl⟩ := List.getElem_of_mem hx
    rw [List.getElem_take]
    simp at hj
    rw [hb j (by omega) (by omega)]; rfl
  rw [h1]
  simp [h]
theorem filter_step (pr : α → Bool) (xs : List α) (j : Nat) (hj : j < xs.length) : (xs.take (j + 1)).filter (fun x => !pr x) = (xs.take j).filter (fun x => !pr x) ++ if pr xs[j] = true then [] else [xs[j]] := by
  rw [List.take_succ_eq_append_getElem hj, List.filter_append]
  cases h : pr xs[j] <;> simp [h]
theorem drop_step {β : Type} {f : α → β} {Y : List β} {j : Nat} (h1 : j < Y.length) (h2 : j < xs.length) (h : Y.drop j = (xs.drop j).map f) : Y.drop (j + 1) = (xs.drop (j + 1)).map f := by
  rw [← List.drop_drop, h, ← List.map_drop, List.drop_drop]
theorem take_set_succ {β : Type} {Y : List β} {i : Nat} {y : β} (h : i < Y.length) : (Y.set i y).take (i + 1) = Y.take i ++ [y] := by
  rw [List.take_succ_eq_append_getElem (by simpa using h), List.take_set_of_le (Nat.le_refl _)]
  simp
end
theorem Sl.old {α : Type} {enc : α → List Value} {sz : Nat} {w : World} {v : Value} {xs : List α} (h : Sl (Flat enc) sz w v xs) (hl : ∀ x, (enc x).length = sz) (h1 : ∀ x, ∀ u ∈ enc x, u.oneCell' = true) :
    ∀ {A : Option Addr} {n c : Nat}, v = .slice A n c → Old w sz A n (xs.map enc) := by
  rintro A n c rfl
  exact Src.of_sl h hl h1
end Go.Proofs.Ythhlfkeikcmnlaa
/- Plain: insertion from the right, as the library's short sorts and the reference's loops do it. No condition. -/
namespace Go.Proofs.Ythhlfkeikcmnlaa

section
variable {α : Type} (lt : α → α → Bool)
/-- Where x goes in a list when one walks down from place k while x is less. -/
def placeIn (pre : List α) (x : α) : Nat → Nat
  | 0 => 0
  | k + 1 => match pre[k]? with
    | some y => if lt x y then placeIn pre x k else k + 1
    | none => k + 1
theorem placeIn_le (pre : List α) (x : α) : ∀ k, placeIn lt pre x k ≤ k
  | 0 => Nat.le_refl _
  | k + 1 => by
    unfold placeIn
    have := placeIn_le pre x k
    split
    · split <;> omega
    · omega
/-- x put into a list from the right. -/
def putIn (pre : List α) (x : α) : List α := pre.take (placeIn lt pre x pre.length) ++ x :: pre.drop (placeIn lt pre x pre.length)
/-- A list put in order, an element after the other. -/
def putAll (xs : List α) : List α := xs.foldl (putIn lt) []
theorem putIn_len (pre : List α) (x : α) : (putIn lt pre x).length = pre.length + 1 := by
  unfold putIn
  have := placeIn_le lt pre x pre.length
  simp
  omega
theorem putAll_len (xs : List α) : (putAll lt xs).length = xs.length := by
  have h : ∀ (xs acc : List α), (xs.foldl (putIn lt) acc).length = acc.length + xs.length := by
    intro xs
    induction xs with
    | nil => intro acc; simp
    | cons x xs ih => intro acc; rw [List.foldl_cons, ih, putIn_len]; simp; omega
  simpa [putAll] using h xs []
theorem putAll_take (xs : List α) (k : Nat) (h : k < xs.length) : putAll lt (xs.take (k + 1)) = putIn lt (putAll lt (xs.take k)) xs[k] := by
  unfold putAll
  rw [List.take_succ_eq_append_getElem h, List.foldl_append]
  rfl
theorem putIn_perm (pre : List α) (x : α) : (putIn lt pre x).Perm (x :: pre) := by
  unfold putIn
  have h := List.take_append_drop (placeIn lt pre x pre.length) pre
  calc (pre.take (placeIn lt pre x pre.length) ++ x :: pre.drop (placeIn lt pre x pre.length)).Perm (x :: (pre.take (placeIn lt pre x pre.length) ++ pre.drop (placeIn lt pre x pre.length))) := List.perm_middle
    _ = (x :: pre) := by rw [h]
theorem putAll_perm (xs : List α) : (putAll lt xs).Perm xs := by
  have h : ∀ (xs acc : List α), (xs.foldl (putIn lt) acc).Perm (acc ++ xs) := by
    intro xs
    induction xs with
    | nil => intro acc; simp
    | cons x xs ih =>
      intro acc
      rw [List.foldl_cons]
      refine (ih _).trans ?_
      refine ((putIn_perm lt acc x).append_right xs).trans ?_
      simpa using (List.perm_middle (a := x) (l₁ := acc) (l₂ := xs)).symm
  simpa [putAll] using h xs []

/-- In the middle of an insertion: x stands at place j, those that were there moved up. -/
def midIn (pre rest : List α) (x : α) (j : Nat) : List α := pre.take j ++ x :: (pre.drop j ++ rest)
theorem midIn_len {pre rest : List α} {x : α} {j : Nat} (h : j ≤ pre.length) : (midIn pre rest x j).length = pre.length + 1 + rest.length := by simp [midIn]; omega
theorem midIn_at {pre rest : List α} {x : α} {j : Nat} (h : j ≤ pre.length) (hl : j < (midIn pre rest x j).length) : (midIn pre rest x j)[j] = x := by
  simp only [midIn]
  rw [List.getElem_append_right (by simp; omega)]
  simp [Nat.min_eq_left h]
theorem midIn_before {pre rest : List α} {x : α} {j : Nat} (h0 : 0 < j) (h : j ≤ pre.length) (hl : j - 1 < (midIn pre rest x j).length) : (midIn pre rest x j)[j - 1] = pre[j - 1]'(by omega) := by
  simp only [midIn]
  rw [List.getElem_append_left (by simp; omega)]
  simp
theorem midIn_swap {pre rest : List α} {x : α} {j : Nat} (h0 : 0 < j) (h : j ≤ pre.length) : ((midIn pre rest x j).set j (pre[j - 1]'(by omega))).set (j - 1) x = midIn pre rest x (j - 1) := by
  obtain ⟨i, rfl⟩ : ∃ i, j = i + 1 := ⟨j - 1, by omega⟩
  simp only [Nat.add_sub_cancel, midIn]
  rw [List.set_append_right _ _ (by simp; omega), List.take_succ_eq_append_getElem (by omega)]
  have e1 : i + 1 - (pre.take i ++ [pre[i]]).length = 0 := by simp; omega
  rw [e1, List.set_cons_zero, List.append_assoc, List.set_append_right _ _ (by simp; omega)]
  have e2 : i - (pre.take i).length = 0 := by simp; omega
  rw [e2]
  rw [show pre.drop i = pre[i] :: pre.drop (i + 1) from List.drop_eq_getElem_cons (by omega)]
  simp only [List.cons_append, List.nil_append, List.set_cons_zero]
/-- The walk down ends where 'placeIn' says. -/
theorem placeIn_from (pre : List α) (x : α) (j : Nat) : ∀ k, j ≤ k → (∀ p (h : p < pre.length), j ≤ p → p < k → lt x pre[p] = true) → k ≤ pre.length → placeIn lt pre x k = placeIn lt pre x j
  | 0, hj, _, _ => by
    obtain rfl : j = 0 := by omega
    rfl
  | k + 1, hj, hp, hk => by
    by_cases e : j = k + 1
    · subst e; rfl
    · have h1 := hp k (by omega) (by omega) (by omega)
      rw [placeIn, List.getElem?_eq_getElem (by omega)]
      simp only [h1, if_true]
      exact placeIn_from pre x j k (by omega) (fun p h h2 h3 => hp p h h2 (by omega)) (by omega)
theorem midIn_end {pre rest : List α} {x : α} {j : Nat} (h : j ≤ pre.length) (hp : ∀ p (h : p < pre.length), j ≤ p → lt x pre[p] = true) (hend : j = 0 ∨ ∃ h : j - 1 < pre.length, lt x pre[j - 1] = false) :
    midIn pre rest x j = putIn lt pre x ++ rest := by
  have e : placeIn lt pre x pre.length = j := by
    rw [placeIn_from lt pre x j pre.length h (fun p h1 h2 _ => hp p h1 h2) (Nat.le_refl _)]
    rcases hend with rfl | ⟨hl, hf⟩
    · rfl
    · cases j with
      | zero => rfl
      | succ i =>
        simp only [Nat.add_sub_cancel] at hl hf
        rw [placeIn, List.getElem?_eq_getElem hl]
        simp [hf]
  unfold midIn putIn
  rw [e]
  simp
theorem midIn_start (pre rest : List α) (x : α) : midIn pre rest x pre.length = pre ++ x :: rest := by simp [midIn]
end

/-! ### Integers: the list put in order is in order -/
def ltI (x y : Int) : Bool := decide (x < y)
theorem placeIn_spec (pre : List Int) (x : Int) (hs : pre.Pairwise (· ≤ ·)) : ∀ k, k ≤ pre.length → (∀ p (h : p < pre.length), p < placeIn ltI pre x k → pre[p] ≤ x) ∧ (∀ p (h : p < pre.length), placeIn ltI pre x k ≤ p → p < k → x < pre[p])
  | 0, _ => ⟨fun p h hp => by simp [placeIn] at hp, fun p h _ hp => absurd hp (by omega)⟩
  | k + 1, hk => by
    have ih := placeIn_spec pre x hs k (by omega)
    rw [placeIn, List.getElem?_eq_getElem (by omega)]
    simp only
    by_cases hl : x < pre[k]
    · have : ltI x pre[k] = true := by simpa [ltI] using hl
      rw [if_pos this]
      refine ⟨ih.1, fun p h h1 h2 => ?_⟩
      by_cases e : p = k
      · subst e; exact hl
      · exact ih.2 p h h1 (by omega)
    · have : ltI x pre[k] = false := by simpa [ltI] using hl
      rw [this]
      simp only [Bool.false_eq_true, if_false]
      refine ⟨fun p h hp => ?_, fun p h h1 h2 => absurd h1 (by omega)⟩
      by_cases e : p = k
      · subst e; omega
      · have := List.pairwise_iff_getElem.1 hs p k h (by omega) (by omega)
        omega
theorem putIn_sorted {pre : List Int} {x : Int} (hs : pre.Pairwise (· ≤ ·)) : (putIn ltI pre x).Pairwise (· ≤ ·) := by
  have hp := placeIn_spec pre x hs pre.length (Nat.le_refl _)
  unfold putIn
  have h12 := hs
  rw [← List.take_append_drop (placeIn ltI pre x pre.length) pre, List.pairwise_append] at h12
  rw [List.pairwise_append]
  refine ⟨h12.1, ?_, ?_⟩
  · rw [List.pairwise_cons]
    refine ⟨fun y hy => ?_, h12.2.1⟩
    obtain ⟨i, hi, rfl⟩ := List.getElem_of_mem hy
    rw [List.getElem_drop]
    have := hp.2 (placeIn ltI pre x pre.length + i) (by simp at hi; omega) (by omega) (by simp at hi; omega)
    omega
  · intro y hy z hz
    rcases List.mem_cons.1 hz with rfl | hz
    · obtain ⟨i, hi, rfl⟩ := List.getElem_of_mem hy
      rw [List.getElem_take]
      simp at hi
      exact hp.1 i (by omega) (by omega)
    · exact h12.2.2 y hy z hz
theorem putAll_sorted (xs : List Int) : (putAll ltI xs).Pairwise (· ≤ ·) := by
  have h : ∀ (xs acc : List Int), acc.Pairwise (· ≤ ·) → (xs.foldl (putIn ltI) acc).Pairwise (· ≤ ·) := by
    intro xs
    induction xs with
    | nil => intro acc h; exact h
    | cons x xs ih => intro acc h; exact ih _ (putIn_sorted h)
  exact h xs [] List.Pairwise.nil
end Go.Proofs.Ythhlfkeikcmnlaa
/- Plain: insertion from the right leaves a list in order, whatever the order. No condition. -/
namespace Go.Proofs.Ythhlfkeikcmnlaa
section
variable {α : Type} {lt : α → α → Bool}
/-- What makes 'less' an order up to ties. -/
structure Ord (lt : α → α → Bool) : Prop where
  anti : ∀ x y, lt x y = true → lt y x = false
  trans : ∀ x y z, lt y x = false → lt z y = false → lt z x = false
theorem placeIn_rest (O : Ord lt) (pre : List α) (x : α) (hs : pre.Pairwise fun a b => lt b a = false) : ∀ k, k ≤ pre.length → (∀ p (h : p < pre.length), p < placeIn lt pre x k → lt x pre[p] = false) ∧ (∀ p (h : p < pre.length), placeIn lt pre x k ≤ p → p < k → lt x pre[p] = true)
  | 0, _ => ⟨fun p h hp => by simp [placeIn] at hp, fun p h _ hp => absurd hp (by omega)⟩
  | k + 1, hk => by
    have ih := placeIn_rest O pre x hs k (by omega)
    rw [placeIn, List.getElem?_eq_getElem (by omega)]
    simp only
    cases hl : lt x pre[k] with
    | true =>
      simp only [if_true]
      refine ⟨ih.1, fun p h h1 h2 => ?_⟩
      by_cases e : p = k
      · subst e; exact hl
      · exact ih.2 p h h1 (by omega)
    | false =>
      simp only [Bool.false_eq_true, if_false]
      refine ⟨fun p h hp => ?_, fun p h h1 h2 => absurd h1 (by omega)⟩
      by_cases e : p = k
      · subst e; exact hl
      · have := List.pairwise_iff_getElem.1 hs p k h (by omega) (by omega)
        exact O.trans _ _ _ this hl
theorem putIn_ordered (O : Ord lt) {pre : List α} {x : α} (hs : pre.Pairwise fun a b => lt b a = false) : (putIn lt pre x).Pairwise fun a b => lt b a = false := by
  have hp := placeIn_rest O pre x hs pre.length (Nat.le_refl _)
  unfold putIn
  have h12 := hs
  rw [← List.take_append_drop (placeIn lt pre x pre.length) pre, List.pairwise_append] at h12
  rw [List.pairwise_append]
  refine ⟨h12.1, ?_, ?_⟩
  · rw [List.pairwise_cons]
    refine ⟨fun y hy => ?_, h12.2.1⟩
    obtain ⟨i, hi, rfl⟩ := List.getElem_of_mem hy
    rw [List.getElem_drop]
    exact O.anti _ _ (hp.2 (placeIn lt pre x pre.length + i) (by simp at hi; omega) (by omega) (by simp at hi; omega))
  · intro y hy z hz
    rcases List.mem_cons.1 hz with rfl | hz
    · obtain ⟨i, hi, rfl⟩ := List.getElem_of_mem hy
      rw [List.getElem_take]
      simp at hi
      exact hp.1 i (by omega) (by omega)
    · exact h12.2.2 y hy z hz
theorem putAll_ordered (O : Ord lt) (xs : List α) : (putAll lt xs).Pairwise fun a b => lt b a = false := by
  have h : ∀ (xs acc : List α), (acc.Pairwise fun a b => lt b a = false) → (xs.foldl (putIn lt) acc).Pairwise fun a b => lt b a = false := by
    intro xs
    induction xs with
    | nil => intro acc h; exact h
    | cons x xs ih => intro acc h; exact ih _ (putIn_ordered O h)
  exact h xs [] List.Pairwise.nil
/-- Walking down in an ordered list: the place does not move where everything is in order already. -/
theorem placeIn_top {pre : List α} {x : α} : ∀ k, (∀ h : k - 1 < pre.length, 0 < k → lt x pre[k - 1] = false) → k ≤ pre.length → placeIn lt pre x k = k
  | 0, _, _ => rfl
  | k + 1, h, hk => by
    have := h (by omega) (by omega)
    rw [placeIn, List.getElem?_eq_getElem (by omega)]
    simp only [Nat.add_sub_cancel] at this
    simp [this]
theorem putIn_top {pre : List α} {x : α} (h : ∀ y ∈ pre, lt x y = false) : putIn lt pre x = pre ++ [x] := by
  unfold putIn
  rw [placeIn_top _ (fun h' _ => h _ (List.getElem_mem _)) (Nat.le_refl _)]
  simp
/-- A list in order stays as it is. -/
theorem putAll_id {xs : List α} (hs : xs.Pairwise fun a b => lt b a = false) : putAll lt xs = xs := by
  have h : ∀ (xs acc : List α), ((acc ++ xs).Pairwise fun a b => lt b a = false) → xs.foldl (putIn lt) acc = acc ++ xs := by
    intro xs
    induction xs with
    | nil => intro acc h; simp
    | cons x xs ih =>
      intro acc h
      rw [List.foldl_cons, putIn_top (fun y hy => (List.pairwise_append.1 h).2.2 y hy x (by simp)), ih _ (by simpa using h)]
      simp
  have := h xs [] (by simpa using hs)
  simpa [putAll] using this
theorem putAll_append (xs ys : List α) : putAll lt (xs ++ ys) = ys.foldl (putIn lt) (putAll lt xs) := by simp [putAll, List.foldl_append]
end
theorem placeIn_is {α : Type} (lt : α → α → Bool) {pre : List α} {x : α} {j : Nat} (h : j ≤ pre.length) (hp : ∀ p (h : p < pre.length), j ≤ p → lt x pre[p] = true) (hend : j = 0 ∨ ∃ h : j - 1 < pre.length, lt x pre[j - 1] = false) : placeIn lt pre x pre.length = j := by
  rw [placeIn_from lt pre x j pre.length h (fun p h1 h2 _ => hp p h1 h2) (Nat.le_refl _)]
  rcases hend with rfl | ⟨hl, hf⟩
  · rfl
  · cases j with
    | zero => rfl
    | succ i =>
      simp only [Nat.add_sub_cancel] at hl hf
      rw [placeIn, List.getElem?_eq_getElem hl]
      simp [hf]
theorem midIn_swap_map {α β : Type} (f : α → β) (P0 pre rest : List α) (x : α) {a j : Nat} (h0 : 0 < j) (h : j ≤ pre.length) (ha : a = P0.length) :
    (((P0 ++ midIn pre rest x j).map f).set (a + j) (f (pre[j - 1]'(by omega)))).set (a + (j - 1)) (f x) = (P0 ++ midIn pre rest x (j - 1)).map f := by
  rw [← List.map_set, ← List.map_set, List.set_append_right _ _ (by omega), List.set_append_right _ _ (by omega)]
  have e1 : a + j - P0.length = j := by omega
  have e2 : a + (j - 1) - P0.length = j - 1 := by omega
  rw [e1, e2, midIn_swap h0 h]
/-- Less by a comparison. -/
def ltC {α : Type} (cf : α → α → Int) (x y : α) : Bool := decide (cf x y < 0)
end Go.Proofs.Ythhlfkeikcmnlaa
/- Plain: comparisons that are orders up to ties, ties broken by the numbers; what a merge of two runs is. No condition. -/
namespace Go.Proofs.Ythhlfkeikcmnlaa

/-- A comparison that is an order up to ties. -/
structure Cmp {α : Type} (cf : α → α → Int) : Prop where
  neg : ∀ x y, cf y x = - cf x y
  tr : ∀ x y z, cf x y ≤ 0 → cf y z ≤ 0 → cf x z ≤ 0
/-- Less by the comparison, of equal ones the lesser number. -/
def ltR (cf : Int → Int → Int) (x y : Int) : Bool := decide (cf x y < 0) || (decide (cf x y = 0) && decide (x < y))
theorem ltR_iff {cf : Int → Int → Int} {x y : Int} : ltR cf x y = true ↔ cf x y < 0 ∨ (cf x y = 0 ∧ x < y) := by simp [ltR]
theorem ltR_not {cf : Int → Int → Int} {x y : Int} : ltR cf x y = false ↔ 0 ≤ cf x y ∧ (cf x y = 0 → y ≤ x) := by
  rw [← Bool.not_eq_true, ltR_iff]
  constructor
  · intro h
    refine ⟨?_, ?_⟩
    · rcases Int.lt_or_le (cf x y) 0 with h1 | h1
      · exact absurd (.inl h1) h
      · exact h1
    · intro h1
      rcases Int.lt_or_le x y with h2 | h2
      · exact absurd (.inr ⟨h1, h2⟩) h
      · exact h2
  · rintro ⟨h1, h2⟩ (h3 | ⟨h3, h4⟩)
    · omega
    · have := h2 h3; omega
/-- In order. -/
abbrev Srt (cf : Int → Int → Int) (l : List Int) : Prop := l.Pairwise fun a b => ltR cf b a = false
section
variable {cf : Int → Int → Int}
theorem le_trans (C : Cmp cf) {x y z : Int} (h1 : ltR cf y x = false) (h2 : ltR cf z y = false) : ltR cf z x = false := by
  rw [ltR_not] at *
  have a1 := C.neg x y; have a2 := C.neg y z; have a3 := C.neg x z
  have t := C.tr x y z (by omega) (by omega)
  refine ⟨by omega, fun h => ?_⟩
  have t1 := C.tr y z x (by omega) (by omega)
  have t2 := C.tr z x y (by omega) (by omega)
  have := h1.2 (by omega); have := h2.2 (by omega)
  omega
theorem ordR (C : Cmp cf) : Ord (ltR cf) := ⟨fun x y h => by rw [ltR_iff] at h; rw [ltR_not]; have := C.neg x y; omega, fun _ _ _ h1 h2 => le_trans C h1 h2⟩
theorem srt_unique (C : Cmp cf) {l1 l2 : List Int} (h1 : Srt cf l1) (h2 : Srt cf l2) (hp : l1.Perm l2) : l1 = l2 :=
  List.Perm.eq_of_pairwise (fun a b _ _ h h' => by
    rw [ltR_not] at h h'
    have := C.neg a b
    have := h.2 (by omega); have := h'.2 (by omega)
    omega) h1 h2 hp
theorem placeIn_congr {α : Type} {l1 l2 : α → α → Bool} {pre : List α} {x : α} (h : ∀ y ∈ pre, l1 x y = l2 x y) : ∀ k, placeIn l1 pre x k = placeIn l2 pre x k
  | 0 => rfl
  | k + 1 => by
    unfold placeIn
    cases hq : pre[k]? with
    | none => rfl
    | some y =>
      simp only
      rw [h y (List.mem_of_getElem? hq), placeIn_congr h k]
theorem putIn_congr {α : Type} {l1 l2 : α → α → Bool} {pre : List α} {x : α} (h : ∀ y ∈ pre, l1 x y = l2 x y) : putIn l1 pre x = putIn l2 pre x := by
  unfold putIn
  rw [placeIn_congr h]
/-- Of ascending numbers: sorting by the comparison, stably, is sorting with the ties broken. -/
theorem putAll_asc {xs : List Int} (ha : xs.Pairwise (· < ·)) : putAll (ltC cf) xs = putAll (ltR cf) xs := by
  have h : ∀ (xs acc : List Int), xs.Pairwise (· < ·) → (∀ y ∈ acc, ∀ x ∈ xs, y < x) → xs.foldl (putIn (ltC cf)) acc = xs.foldl (putIn (ltR cf)) acc := by
    intro xs
    induction xs with
    | nil => intro acc _ _; rfl
    | cons x xs ih =>
      intro acc h1 h2
      have e : putIn (ltC cf) acc x = putIn (ltR cf) acc x := putIn_congr fun y hy => by
        have := h2 y hy x (by simp)
        unfold ltC ltR
        have : decide (x < y) = false := by simp; omega
        simp [this]
      rw [List.foldl_cons, List.foldl_cons, e]
      rw [List.pairwise_cons] at h1
      refine ih _ h1.2 fun y hy z hz => ?_
      rcases List.mem_cons.1 ((putIn_perm _ _ _).mem_iff.1 hy) with rfl | hy
      · exact h1.1 z hz
      · exact h2 y hy z (List.mem_cons_of_mem _ hz)
  exact h xs [] ha (by simp)
theorem putAll_srt (C : Cmp cf) {xs : List Int} (ha : xs.Pairwise (· < ·)) : Srt cf (putAll (ltC cf) xs) := by
  rw [putAll_asc ha]
  exact putAll_ordered (ordR C) xs
/-- What stands in order and holds the same is the sorted list. -/
theorem srt_is (C : Cmp cf) {xs l : List Int} (ha : xs.Pairwise (· < ·)) (hs : Srt cf l) (hp : l.Perm xs) : l = putAll (ltC cf) xs :=
  srt_unique C hs (putAll_srt C ha) (hp.trans (putAll_perm _ xs).symm)
/-- Two runs cut at places where the parts before are not greater than those behind. -/
theorem cut_ok (C : Cmp cf) {A B : List Int} (hA : Srt cf A) (hB : Srt cf B) (hAB : ∀ a ∈ A, ∀ b ∈ B, a < b) {i j : Nat} (hi : i ≤ A.length) (hj : j ≤ B.length)
    (h1 : ∀ (hi0 : 0 < i) (hjl : j < B.length), ¬ cf B[j] (A[i - 1]'(by omega)) < 0) (h2 : ∀ (hj0 : 0 < j) (hil : i < A.length), cf (B[j - 1]'(by omega)) A[i] < 0) :
    ∀ x ∈ A.take i ++ B.take j, ∀ y ∈ A.drop i ++ B.drop j, ltR cf y x = false := by
  have hA' := List.pairwise_iff_getElem.1 hA
  have hB' := List.pairwise_iff_getElem.1 hB
  have refl_ : ∀ x, ltR cf x x = false := fun x => by rw [ltR_not]; have := C.neg x x; omega
  have gA : ∀ p q (hp : p < A.length) (hq : q < A.length), p ≤ q → ltR cf A[q] A[p] = false := fun p q hp hq h => by
    by_cases e : p = q
    · subst e; exact refl_ _
    · exact hA' p q hp hq (by omega)
  have gB : ∀ p q (hp : p < B.length) (hq : q < B.length), p ≤ q → ltR cf B[q] B[p] = false := fun p q hp hq h => by
    by_cases e : p = q
    · subst e; exact refl_ _
    · exact hB' p q hp hq (by omega)
  intro x hx y hy
  rcases List.mem_append.1 hx with hx | hx <;> rcases List.mem_append.1 hy with hy | hy <;> obtain ⟨p, hp, rfl⟩ := List.getElem_of_mem hx <;> obtain ⟨q, hq, rfl⟩ := List.getElem_of_mem hy <;> rw [List.getElem_take, List.getElem_drop] <;> simp only [List.length_take, List.length_drop] at hp hq
  · exact gA _ _ _ _ (by omega)
  · have a1 := gA p (i - 1) (by omega) (by omega) (by omega)
    have a2 := gB j (j + q) (by omega) (by omega) (by omega)
    have a3 : ltR cf B[j] (A[i - 1]'(by omega)) = false := by
      rw [ltR_not]
      have := h1 (by omega) (by omega)
      have := hAB (A[i - 1]'(by omega)) (List.getElem_mem _) B[j] (List.getElem_mem _)
      omega
    exact le_trans C (le_trans C a1 a3) a2
  · have a1 := gB p (j - 1) (by omega) (by omega) (by omega)
    have a2 := gA i (i + q) (by omega) (by omega) (by omega)
    have a3 : ltR cf A[i] (B[j - 1]'(by omega)) = false := by
      rw [ltR_not]
      have := h2 (by omega) (by omega)
      have := C.neg (B[j - 1]'(by omega)) A[i]
      omega
    exact le_trans C (le_trans C a1 a3) a2
  · exact gB _ _ _ _ (by omega)
theorem srt_join {S1 S2 X Y : List Int} (h1 : Srt cf S1) (h2 : Srt cf S2) (p1 : S1.Perm X) (p2 : S2.Perm Y) (h : ∀ x ∈ X, ∀ y ∈ Y, ltR cf y x = false) : Srt cf (S1 ++ S2) := by
  rw [Srt, List.pairwise_append]
  exact ⟨h1, h2, fun x hx y hy => h x (p1.mem_iff.1 hx) y (p2.mem_iff.1 hy)⟩
theorem srt_take {l : List Int} (h : Srt cf l) (i : Nat) : Srt cf (l.take i) := h.sublist (List.take_sublist _ _)
theorem srt_drop {l : List Int} (h : Srt cf l) (i : Nat) : Srt cf (l.drop i) := h.sublist (List.drop_sublist _ _)
theorem perm_cut {A B S1 S2 : List Int} (i j : Nat) (p1 : S1.Perm (A.take i ++ B.take j)) (p2 : S2.Perm (A.drop i ++ B.drop j)) : (S1 ++ S2).Perm (A ++ B) := by
  refine (p1.append p2).trans ?_
  have e : A ++ B = (A.take i ++ A.drop i) ++ (B.take j ++ B.drop j) := by rw [List.take_append_drop, List.take_append_drop]
  rw [e, List.append_assoc, List.append_assoc]
  refine List.Perm.append_left _ ?_
  rw [← List.append_assoc, ← List.append_assoc]
  exact List.Perm.append_right _ List.perm_append_comm
end
end Go.Proofs.Ythhlfkeikcmnlaa
/- Plain: ascending lists without repeats; a number put in its place once; neighbours that are equal struck. No condition. -/
namespace Go.Proofs.Ythhlfkeikcmnlaa
abbrev Asc (l : List Int) : Prop := l.Pairwise (· < ·)
theorem asc_ext : ∀ {l1 l2 : List Int}, Asc l1 → Asc l2 → (∀ m, m ∈ l1 ↔ m ∈ l2) → l1 = l2
  | [], [], _, _, _ => rfl
  | [], y :: ys, _, _, h => absurd ((h y).2 (by simp)) (by simp)
  | x :: xs, [], _, _, h => absurd ((h x).1 (by simp)) (by simp)
  | x :: xs, y :: ys, h1, h2, h => by
    have h1' := List.pairwise_cons.1 h1
    have h2' := List.pairwise_cons.1 h2
    have e : x = y := by
      rcases List.mem_cons.1 ((h x).1 (by simp)) with e | e
      · exact e
      · rcases List.mem_cons.1 ((h y).2 (by simp)) with e' | e'
        · exact e'.symm
        · have a := h2'.1 x e
          have b := h1'.1 y e'
          omega
    subst e
    congr 1
    refine asc_ext h1'.2 h2'.2 fun m => ⟨fun hm => ?_, fun hm => ?_⟩
    · rcases List.mem_cons.1 ((h m).1 (by simp [hm])) with e | e
      · have := h1'.1 m hm; omega
      · exact e
    · rcases List.mem_cons.1 ((h m).2 (by simp [hm])) with e | e
      · have := h2'.1 m hm; omega
      · exact e
/-- How many leading numbers are less. -/
def below (l : List Int) (n : Int) : Nat := (l.takeWhile fun x => decide (x < n)).length
theorem below_le (l : List Int) (n : Int) : below l n ≤ l.length := by
  unfold below
  exact List.Sublist.length_le (List.takeWhile_sublist _)
theorem below_is {l : List Int} {n : Int} {k : Nat} (h1 : ∀ j (h : j < l.length), j < k → l[j] < n) (h2 : ∀ h : k < l.length, ¬ l[k] < n) (hk : k ≤ l.length) : below l n = k := by
  unfold below
  have e : l.takeWhile (fun x => decide (x < n)) = l.take k := by
    induction l generalizing k with
    | nil => simp
    | cons x xs ih =>
      cases k with
      | zero =>
        have := h2 (by simp)
        simp only [List.getElem_cons_zero] at this
        simp [this]
      | succ k =>
        have h0 := h1 0 (by simp) (by omega)
        simp only [List.getElem_cons_zero] at h0
        rw [List.takeWhile_cons_of_pos (by simpa using h0), List.take_succ_cons]
        congr 1
        exact ih (fun j hj hjk => by have := h1 (j + 1) (by simp; omega) (by omega); simpa using this) (fun h => by have := h2 (by simp; omega); simpa using this) (by simp at hk; omega)
  rw [e]
  simp; omega
/-- A number put to its place, once. -/
def putU (l : List Int) (n : Int) : List Int := if l[below l n]? = some n then l else l.take (below l n) ++ n :: l.drop (below l n)
theorem below_spec (l : List Int) (n : Int) : (∀ x ∈ l.take (below l n), x < n) ∧ (∀ h : below l n < l.length, ¬ l[below l n] < n) := by
  induction l with
  | nil => simp [below]
  | cons x xs ih =>
    by_cases hx : x < n
    · have e : below (x :: xs) n = below xs n + 1 := by unfold below; rw [List.takeWhile_cons_of_pos (by simpa using hx)]; rfl
      rw [e, List.take_succ_cons]
      refine ⟨fun y hy => ?_, fun h => ?_⟩
      · rcases List.mem_cons.1 hy with rfl | hy
        · exact hx
        · exact ih.1 y hy
      · have := ih.2 (by simpa using h)
        simpa using this
    · have e : below (x :: xs) n = 0 := by unfold below; rw [List.takeWhile_cons_of_neg (by simpa using hx)]; rfl
      rw [e]
      exact ⟨by simp, fun _ => by simpa using hx⟩
theorem putU_mem (l : List Int) (n m : Int) : m ∈ putU l n ↔ m = n ∨ m ∈ l := by
  unfold putU
  split
  · rename_i h
    have := List.mem_of_getElem? h
    constructor
    · exact .inr
    · rintro (rfl | h) <;> assumption
  · rw [List.mem_append, List.mem_cons]
    conv => rhs; rw [← List.take_append_drop (below l n) l, List.mem_append]
    grind
theorem putU_asc {l : List Int} (hl : Asc l) (n : Int) : Asc (putU l n) := by
  unfold putU
  split
  · exact hl
  · rename_i h
    obtain ⟨h1, h2⟩ := below_spec l n
    have h12 := hl
    unfold Asc at h12
    rw [← List.take_append_drop (below l n) l, List.pairwise_append] at h12
    unfold Asc
    rw [List.pairwise_append, List.pairwise_cons]
    have h3 : ∀ y ∈ l.drop (below l n), n < y := by
      intro y hy
      obtain ⟨i, hi, rfl⟩ := List.getElem_of_mem hy
      have hlt : below l n < l.length := by simp at hi; omega
      have h4 := h2 hlt
      rw [List.getElem_drop]
      rw [List.getElem?_eq_getElem hlt] at h
      have h5 : l[below l n] ≠ n := fun e => h (by rw [e])
      by_cases e : i = 0
      · subst e; simp only [Nat.add_zero]; omega
      · have := List.pairwise_iff_getElem.1 hl (below l n) (below l n + i) hlt (by simp at hi; omega) (by omega)
        omega
    refine ⟨h12.1, ⟨h3, h12.2.1⟩, fun y hy z hz => ?_⟩
    rcases List.mem_cons.1 hz with rfl | hz
    · exact h1 y hy
    · exact h12.2.2 y hy z hz
/-- Numbers put to their places one after another. -/
def putUs (l : List Int) : List Int := l.foldl putU []
theorem putUs_ok (xs : List Int) : Asc (putUs xs) ∧ ∀ m, m ∈ putUs xs ↔ m ∈ xs := by
  have h : ∀ (xs acc : List Int), Asc acc → Asc (xs.foldl putU acc) ∧ ∀ m, m ∈ xs.foldl putU acc ↔ m ∈ acc ∨ m ∈ xs := by
    intro xs
    induction xs with
    | nil => intro acc h; simp [h]
    | cons x xs ih =>
      intro acc h
      obtain ⟨h1, h2⟩ := ih (putU acc x) (putU_asc h x)
      refine ⟨h1, fun m => ?_⟩
      rw [List.foldl_cons, h2, putU_mem]
      simp
      grind
  have := h xs [] List.Pairwise.nil
  simpa [putUs] using this
theorem putUs_take (xs : List Int) (k : Nat) (h : k < xs.length) : putUs (xs.take (k + 1)) = putU (putUs (xs.take k)) xs[k] := by
  unfold putUs
  rw [List.take_succ_eq_append_getElem h, List.foldl_append]
  rfl
/-- Equal neighbours struck: the first of each stays. -/
def squeeze : List Int → List Int
  | [] => []
  | x :: xs => match xs with
    | [] => [x]
    | y :: _ => if x = y then squeeze xs else x :: squeeze xs
theorem squeeze_mem : ∀ (l : List Int) (m : Int), m ∈ squeeze l ↔ m ∈ l
  | [], m => by simp [squeeze]
  | [x], m => by simp [squeeze]
  | x :: y :: ys, m => by
    have ih := squeeze_mem (y :: ys) m
    rw [squeeze]
    split
    · rename_i e; subst e; rw [ih]; simp
    · simp only [List.mem_cons, ih]
theorem squeeze_asc : ∀ {l : List Int}, l.Pairwise (· ≤ ·) → Asc (squeeze l)
  | [], _ => List.Pairwise.nil
  | [x], _ => by simp [squeeze, Asc]
  | x :: y :: ys, h => by
    have h' := List.pairwise_cons.1 h
    have ih := squeeze_asc h'.2
    rw [squeeze]
    split
    · exact ih
    · rename_i e
      refine List.pairwise_cons.2 ⟨fun z hz => ?_, ih⟩
      have hz' := (squeeze_mem _ _).1 hz
      have a := h'.1 z hz'
      have b := h'.1 y (by simp)
      rcases List.mem_cons.1 hz' with rfl | hz2
      · omega
      · have := (List.pairwise_cons.1 h'.2).1 z hz2; omega
/-- The numbers sorted, repeats struck, are the numbers put to their places. -/
theorem squeeze_sorted {l s : List Int} (hs : s.Pairwise (· ≤ ·)) (hp : s.Perm l) : squeeze s = putUs l :=
  asc_ext (squeeze_asc hs) (putUs_ok l).1 fun m => by rw [squeeze_mem, (putUs_ok l).2]; exact hp.mem_iff
end Go.Proofs.Ythhlfkeikcmnlaa
/- Plain: equal neighbours struck, one element after another. No condition. -/
namespace Go.Proofs.Ythhlfkeikcmnlaa

theorem squeeze_cons2 (x y : Int) (l : List Int) : squeeze (x :: y :: l) = if x = y then squeeze (y :: l) else x :: squeeze (y :: l) := by rw [squeeze]
theorem squeeze_snoc : ∀ (l : List Int) (y : Int), squeeze (l ++ [y]) = if l.getLast? = some y then squeeze l else squeeze l ++ [y]
  | [], y => by simp [squeeze]
  | [x], y => by
    simp only [List.cons_append, List.nil_append, squeeze, List.getLast?_singleton, Option.some.injEq]
    split <;> simp_all
  | x :: z :: l, y => by
    have ih := squeeze_snoc (z :: l) y
    rw [List.cons_append, List.cons_append, squeeze_cons2, squeeze_cons2, ← List.cons_append, ih]
    have e : (x :: z :: l).getLast? = (z :: l).getLast? := by simp [List.getLast?_cons_cons]
    rw [e]
    by_cases h1 : x = z <;> by_cases h2 : (z :: l).getLast? = some y <;> simp [h1, h2]
theorem squeeze_take (l : List Int) (k : Nat) (h : k < l.length) : squeeze (l.take (k + 1)) = if 0 < k ∧ l[k - 1]? = some l[k] then squeeze (l.take k) else squeeze (l.take k) ++ [l[k]] := by
  rw [List.take_succ_eq_append_getElem h, squeeze_snoc]
  by_cases hk : 0 < k
  · have e : (l.take k).getLast? = l[k - 1]? := by
      rw [List.getLast?_eq_getElem?, List.length_take, Nat.min_eq_left (by omega), List.getElem?_take, if_pos (by omega)]
    rw [e]
    simp [hk]
  · obtain rfl : k = 0 := by omega
    simp
theorem squeeze_len (l : List Int) : (squeeze l).length ≤ l.length := by
  induction l with
  | nil => simp [squeeze]
  | cons x xs ih =>
    cases xs with
    | nil => simp [squeeze]
    | cons y ys =>
      rw [squeeze_cons2]
      split
      · simp only [List.length_cons] at *; omega
      · simp only [List.length_cons] at *; omega
/-- While equal neighbours are struck in place: m elements have been looked at, k of them stay at the head; from place k on the list is as it was. -/
structure Cut (l : List Int) (m k : Nat) (Y : List Int) : Prop where
  size : Y.length = l.length
  len : (squeeze (l.take m)).length = k
  lt : k < m
  low : Y.take k = squeeze (l.take m)
  high : ∀ j, k ≤ j → Y[j]? = l[j]?
theorem squeeze_all {l : List Int} {k : Nat} (h : squeeze (l.take k) = l.take k) (hk : k < l.length) (hne : 0 < k → l[k - 1]? ≠ some l[k]) : squeeze (l.take (k + 1)) = l.take (k + 1) := by
  rw [squeeze_take l k hk, if_neg (fun hh => hne hh.1 hh.2), h, ← List.take_succ_eq_append_getElem hk]
theorem Cut.start {l : List Int} {k : Nat} (h : squeeze (l.take k) = l.take k) (hk : k < l.length) (h0 : 0 < k) (he : l[k - 1]? = some l[k]) : Cut l (k + 1) k l where
  size := rfl
  len := by rw [squeeze_take l k hk, if_pos ⟨h0, he⟩, h]; simp; omega
  lt := Nat.lt_succ_self _
  low := by rw [squeeze_take l k hk, if_pos ⟨h0, he⟩, h]
  high := fun _ _ => rfl
theorem Cut.skip {l Y : List Int} {m k : Nat} (h : Cut l m k Y) (hm : m < l.length) (he : l[m - 1]? = some l[m]) : Cut l (m + 1) k Y := by
  have hs : squeeze (l.take (m + 1)) = squeeze (l.take m) := by rw [squeeze_take l m hm, if_pos ⟨by have := h.lt; omega, he⟩]
  exact ⟨h.size, by rw [hs]; exact h.len, by have := h.lt; omega, by rw [hs]; exact h.low, h.high⟩
theorem Cut.keep {l Y : List Int} {m k : Nat} (h : Cut l m k Y) (hm : m < l.length) (hne : l[m - 1]? ≠ some l[m]) : Cut l (m + 1) (k + 1) (Y.set k l[m]) := by
  have hs : squeeze (l.take (m + 1)) = squeeze (l.take m) ++ [l[m]] := by rw [squeeze_take l m hm, if_neg (fun hh => hne hh.2)]
  have hk := h.lt
  have hz := h.size
  refine ⟨by simpa using h.size, by rw [hs, List.length_append, h.len]; rfl, by omega, ?_, fun j hj => ?_⟩
  · rw [hs, ← h.low, List.take_succ_eq_append_getElem (by simp; omega), List.take_set_of_le (by omega)]
    simp
  · rw [List.getElem?_set_ne (by omega)]
    exact h.high j (by omega)
end Go.Proofs.Ythhlfkeikcmnlaa
