/- Draws by the cursor, in short: a drawing in course, and what its steps give. Condition: the cursor has not come too far. -/
import Derived.Test.YtabgmbmaakglkaaCode
namespace Go.Proofs.Ytabgmbmaakglkaa
open Go Go.RowKit

/-- A drawing in course: begun in w0, the cursor at block c, at place n at most. -/
structure Dr (c : Nat) (w0 w : World) (n : Nat) : Prop where
  cur : Cur c w n
  grown : w0.grownBy w (some c)
theorem Dr.start {c n : Nat} {w : World} (h : Cur c w n) : Dr c w w n := ⟨h, World.grownBy.refl _ _⟩
theorem Dr.mono {c n n' : Nat} {w0 w : World} (h : Dr c w0 w n) (hn : n ≤ n') : Dr c w0 w n' := ⟨h.cur.mono hn, h.grown⟩
theorem Dr.below {c n : Nat} {w0 w w' : World} (h : Dr c w0 w n) (hb : Below w.heap.size w w') : Dr c w0 w' n := ⟨h.cur.below hb, grown_trans h.grown (grown_of hb)⟩
theorem Dr.alloc {c n : Nat} {w0 w : World} (h : Dr c w0 w n) (o : Obj) : Dr c w0 (w.alloc o) n := h.below (below_alloc (Below.refl _ _) o)
theorem Dr.drew {c n : Nat} {w0 w : World} (h : Dr c w0 w n) : Dr c w0 w.drew n := h.below (Below.refl _ _).drew
theorem Dr.size {c n : Nat} {w0 w : World} (h : Dr c w0 w n) : w0.heap.size ≤ w.heap.size := h.grown.size
theorem Dr.step {c n n' : Nat} {w0 w w' : World} (h : Dr c w0 w n) (hc : Cur c w' n') (hg : w.grownBy w' (some c)) : Dr c w0 w' n' := ⟨hc, grown_trans h.grown hg⟩
theorem grown_new {w w1 w2 : World} {c g : Nat} (h : w.grownBy w1 (some c)) (h2 : w1.grownBy w2 (some g)) (hg : w.heap.size ≤ g) : w.grownBy w2 (some c) :=
  ⟨h2.os.trans h.os, h2.tape.trans h.tape, h2.output.trans h.output, Nat.le_trans h.size h2.size, fun i hi hne => (h2.block i (Nat.lt_of_lt_of_le hi h.size) (fun e => by have := Option.some.inj e; omega)).trans (h.block i hi hne)⟩
theorem grown_own {w w1 w2 : World} {c : Nat} {row : Option Nat} (h : w.grownBy w1 (some c)) (h2 : w1.grownBy w2 row) (hg : ∀ g, row = some g → w.heap.size ≤ g) : w.grownBy w2 (some c) :=
  ⟨h2.os.trans h.os, h2.tape.trans h.tape, h2.output.trans h.output, Nat.le_trans h.size h2.size, fun i hi hne => (h2.block i (Nat.lt_of_lt_of_le hi h.size) (fun e => by have := hg i e.symm; omega)).trans (h.block i hi hne)⟩
/-- A store into memory that the drawing has made. -/
theorem Dr.own {c n : Nat} {w0 w w' : World} {row : Option Nat} (h : Dr c w0 w n) (hc : c < w0.heap.size) (hg : w.grownBy w' row) (hr : ∀ g, row = some g → w0.heap.size ≤ g) : Dr c w0 w' n :=
  ⟨h.cur.kept hg (fun g e => by have := hr g e; omega), grown_own h.grown hg hr⟩
/-- Nothing is drawn further on: what was there but the cursor is kept. -/
theorem LitAt.keptC {e : TypeId} {w w' : World} {g c : Nat} {cs : List Value} (h : LitAt w g e cs) (hc : c < g) (hg : w.grownBy w' (some c)) : LitAt w' g e cs := h.grown hg (by intro e; simp at e; omega)
theorem Row.keptC {base c : Nat} {e : TypeId} {sz : Nat} {w w' : World} {v : Value} {ys : List (List Value)} (h : Row base e sz w v ys) (hc : c < base) (hg : w.grownBy w' (some c)) : Row base e sz w' v ys :=
  h.kept hg (.inr fun e => by have := (h.lt _ e).1; omega)
theorem LitAt.put_ {e : TypeId} {w : World} {g : Nat} {cs : List Value} (h : LitAt w g e cs) (j : Nat) (u : Value) : LitAt (w.setCell ⟨g, j, none⟩ u) g e (cs.set j u) := by
  unfold LitAt at h ⊢
  rw [heap_setCell_same w g j cs.toArray e u h]
  simp
theorem Row.putNe_ {base : Nat} {e : TypeId} {sz : Nat} {w : World} {v : Value} {ys : List (List Value)} {g j : Nat} (h : Row base e sz w v ys) (hne : v.ownBlock ≠ some g) (u : Value) : Row base e sz (w.setCell ⟨g, j, none⟩ u) v ys :=
  ⟨h.1, ownsRow_setCell_other h.2 hne _⟩
theorem lit_sl (w : World) (xs : List Int) (e : TypeId) (g n : Nat) (hg : w.heap.size = g) (hn : n = xs.length) (hl : xs.length ≤ 1000) : Sl (Flat ints) 1 (w.alloc (.cells (xs.map (Value.int .i64)).toArray e)) (.slice (some ⟨g, 0, none⟩) n n) xs := by
  subst hg
  subst hn
  have := Row.lit w e 1 (xs.map ints) (by simp [ints]) (by simp [maxLen]; omega) (Nat.le_refl _) (xs.map (Value.int .i64)).toArray (by
    congr 1
    clear hl
    induction xs with
    | nil => rfl
    | cons x xs ih => simp only [List.map_cons, List.flatten_cons, ints, List.cons_append, List.nil_append, ih])
  simp only [List.length_map] at this
  exact Sl.of_flat this

theorem results_tmp4 {fn : Func} {t u v x : Tmp} (h : fn.results = #[.tmp t, .tmp u, .tmp v, .tmp x]) (tmps : Array Value) (P : Program) (w : World) :
    (results fn tmps).run P w = .ok (.tuple #[tmps.getD t undef, tmps.getD u undef, tmps.getD v undef, tmps.getD x undef]) w := by
  simp [results, h, go_sem]
theorem results_tmp5 {fn : Func} {t u v x y : Tmp} (h : fn.results = #[.tmp t, .tmp u, .tmp v, .tmp x, .tmp y]) (tmps : Array Value) (P : Program) (w : World) :
    (results fn tmps).run P w = .ok (.tuple #[tmps.getD t undef, tmps.getD u undef, tmps.getD v undef, tmps.getD x undef, tmps.getD y undef]) w := by
  simp [results, h, go_sem]
theorem pick_dr {c n : Nat} {w0 w : World} (k : Int) (h : Dr c w0 w n) (hn : n ≤ 1000000) (hk : k ≤ 65536) (h1 : 1 ≤ k) :
    Calls Try.prog 76 #[.pointer (some ⟨c, 0, none⟩), .int .i64 k] w fun e w' => ∃ x : Nat, (x : Int) < k ∧ e = .returned (.int .i64 x) ∧ Dr c w0 w' (n + 2) ∧ w.grownBy w' (some c) := by
  refine (pick_any c n k w h.cur (by omega) hk).mono ?_
  rintro e w' ⟨x, rfl, hx0, hx1, hc, hg⟩
  exact ⟨x.toNat, by omega, by rw [Int.toNat_of_nonneg hx0], h.step hc hg, hg⟩
theorem one_dr {c n : Nat} {w0 w : World} (k : Int) (h : Dr c w0 w n) (hn : n ≤ 1000000) (hk : k ≤ 65536) :
    Calls Try.prog 78 #[.pointer (some ⟨c, 0, none⟩), .int .i64 k] w fun e w' => ∃ b : Bool, e = .returned (.bool b) ∧ Dr c w0 w' (n + 2) ∧ w.grownBy w' (some c) := by
  refine (one_any c n k w h.cur (by omega) hk).mono ?_
  rintro e w' ⟨b, rfl, hc, hg⟩
  exact ⟨b, rfl, h.step hc hg, hg⟩
/-- One of a literal's numbers, the literal laid just ahead. -/
theorem among_dr {c n : Nat} {w0 w : World} (xs : List Int) (lo hi : Int) (h : Dr c w0 w n) (cells : Array Value) (hcs : (xs.map (Value.int .i64)).toArray = cells) (e : TypeId) (k : Nat) (hk : k = xs.length) (hn : n ≤ 1000000) (g : Nat) (hgg : w.heap.size = g := by simp) (h0 : 0 < xs.length ∧ xs.length ≤ 1000 := by decide) (hb : ∀ x ∈ xs, lo ≤ x ∧ x ≤ hi := by decide) :
    Calls Try.prog 75 #[.pointer (some ⟨c, 0, none⟩), .slice (some ⟨g, 0, none⟩) k k] (w.alloc (.cells cells e)) fun e w' => ∃ x : Int, e = .returned (.int .i64 x) ∧ (lo ≤ x ∧ x ≤ hi) ∧ Dr c w0 w' (n + 2) ∧ w.grownBy w' (some c) := by
  subst hcs
  subst hk
  subst hgg
  have hbl : Below w.heap.size w (w.alloc (.cells (xs.map (Value.int .i64)).toArray e)) := below_alloc (Below.refl _ _) _
  refine (among_any c n xs _ _ (h.cur.below hbl) (by omega) (lit_sl w xs e _ _ rfl rfl h0.2) h0.1 (by omega) (fun A m d e => ?_)).mono ?_
  · simp only [Value.slice.injEq, Option.some.injEq] at e
    rw [← e.1]
    have := h.cur.lt
    simp only; omega
  · rintro e w' ⟨x, hx, rfl, hc, hg⟩
    have hg2 := grown_trans (grown_of (row := some c) hbl) hg
    exact ⟨x, rfl, hb x hx, h.step hc hg2, hg2⟩
/-- One of a literal's first numbers, the literal laid before. -/
theorem cut_dr {c n : Nat} {w0 w : World} (xs : List Int) (lo hi : Int) (h : Dr c w0 w n) (g : Nat) (e : TypeId) (cs : List Value) (hl : LitAt w g e cs) (hcs : xs.map (Value.int .i64) = cs) (k d : Nat) (hk0 : 0 < k) (hk : k ≤ xs.length) (hd : k ≤ d) (hd2 : d ≤ 1000) (hn : n ≤ 1000000) (hcg : c ≠ g) (h0 : xs.length ≤ 1000 := by decide) (hb : ∀ x ∈ xs, lo ≤ x ∧ x ≤ hi := by decide) :
    Calls Try.prog 75 #[.pointer (some ⟨c, 0, none⟩), .slice (some ⟨g, 0, none⟩) k d] w fun e w' => ∃ x : Int, e = .returned (.int .i64 x) ∧ (lo ≤ x ∧ x ≤ hi) ∧ Dr c w0 w' (n + 2) ∧ w.grownBy w' (some c) := by
  subst hcs
  have hsl : Sl (Flat ints) 1 w (.slice (some ⟨g, 0, none⟩) k d) (xs.take k) := by
    have hr := hl.range
    refine ⟨some ⟨g, 0, none⟩, d, by simp [Nat.min_eq_left hk], by simpa [Nat.min_eq_left hk] using hd, by simp only [maxLen]; omega, fun _ => ⟨g, 0, rfl, fun j hj => ?_⟩⟩
    have hj' : j < xs.length := by simp at hj; omega
    refine ⟨[.int .i64 xs[j]], rfl, fun q u hq => ?_, by simp [Flat, ints]⟩
    cases q with
    | zero =>
      simp only [List.getElem?_cons_zero, Option.some.injEq] at hq
      subst hq
      have := hr j (.int .i64 xs[j]) (by simp [hj'])
      simpa using this
    | succ q => simp at hq
  refine (among_any c n (xs.take k) _ w h.cur (by omega) hsl (by simp; omega) (by simp; omega) (fun A m d e => ?_)).mono ?_
  · simp only [Value.slice.injEq, Option.some.injEq] at e
    rw [← e.1]
    exact fun e2 => hcg e2.symm
  · rintro e w' ⟨x, hx, rfl, hc, hg⟩
    exact ⟨x, rfl, hb x (List.mem_of_mem_take hx), h.step hc hg, hg⟩
end Go.Proofs.Ytabgmbmaakglkaa
