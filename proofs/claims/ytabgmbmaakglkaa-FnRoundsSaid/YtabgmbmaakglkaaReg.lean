/- Rows in regions that draw their order: one append as a step, sources that stay. No condition. -/
import Derived.Test.YtabgmbmaakglkaaCopy
import Derived.Deep.RegionHeld3
import Derived.Deep.DrawnRows
namespace Go.Proofs.Ytabgmbmaakglkaa
open Go Go.RowKit

section
variable {P : Program} {t e : TypeId} {zv : Value} {z : List Value} {sz bytes : Nat}
/-- A row of the call's own, the call begun in w0. -/
def Own (w0 : World) (e : TypeId) (sz : Nat) (w : World) (v : Value) (ys : List (List Value)) : Prop := Row w0.heap.size e sz w v ys ∧ Below w0.heap.size w0 w
theorem Own.b {w0 w : World} {v : Value} {ys : List (List Value)} (h : Own w0 e sz w v ys) : Below w0.heap.size w0 w := h.2
theorem Own.alloc {w0 w : World} {v : Value} {ys : List (List Value)} (h : Own w0 e sz w v ys) (o : Obj) : Own w0 e sz (w.alloc o) v ys := ⟨h.1.alloc o, h.2.alloc h.2.size o⟩
theorem Own.drew {w0 w : World} {v : Value} {ys : List (List Value)} (h : Own w0 e sz w v ys) : Own w0 e sz w.drew v ys := ⟨h.1.drew, h.2.drew⟩
theorem Own.below {w0 w w' : World} {v : Value} {ys : List (List Value)} (h : Own w0 e sz w v ys) (hb : Below w.heap.size w w') : Own w0 e sz w' v ys := ⟨h.1.below hb, step_ h.2 (Nat.le_refl _) hb⟩
theorem below_alloc {w0 w : World} (h : Below w0.heap.size w0 w) (o : Obj) : Below w0.heap.size w0 (w.alloc o) := h.alloc h.size o
theorem Own.nil {w0 w : World} (h : Below w0.heap.size w0 w) (g : Nat) (hg : w.heap.size = g) : Own w0 e sz (w.alloc (.cells #[] e)) (.slice (some ⟨g, 0, none⟩) 0 0) [] := by
  subst hg
  exact ⟨Row.lit_nil w e sz h.size, h.alloc h.size _⟩
theorem Own.ne_new {w0 w : World} {v : Value} {ys : List (List Value)} (h : Own w0 e sz w v ys) (g : Nat) (hg : w.heap.size ≤ g) : v.ownBlock ≠ some g := fun he => by
  have := (h.1.lt g he).2
  omega
/-- Groups in memory that was there when the call began. -/
def Old (w0 : World) (sz : Nat) (A : Option Addr) (m : Nat) (news : List (List Value)) : Prop := Src w0 sz A m news
theorem Old.now {w0 w : World} {A : Option Addr} {m : Nat} {news : List (List Value)} (h : Old w0 sz A m news) (hb : Below w0.heap.size w0 w) : Src w sz A m news := by
  refine ⟨h.1, h.2.1, fun hm => ?_⟩
  obtain ⟨b, off, hA, hk⟩ := h.2.2 hm
  exact ⟨b, off, hA, fun k hk' => rangeAt_below (hk k hk') hb⟩
/-- One group, laid down in the region itself. -/
theorem Src.lit (W : World) (e : TypeId) (cs : List Value) (g : Nat) (hg : W.heap.size = g) (hsz : cs.length = sz) (h1 : ∀ u ∈ cs, u.oneCell' = true) : Src (W.alloc (.cells cs.toArray e)) sz (some ⟨g, 0, none⟩) 1 [cs] := by
  subst hg hsz
  exact Src.one W e cs h1
theorem Src.drew {w : World} {A : Option Addr} {m : Nat} {news : List (List Value)} (h : Src w sz A m news) : Src w.drew sz A m news :=
  ⟨h.1, h.2.1, fun hm => by obtain ⟨b, off, hA, hk⟩ := h.2.2 hm; exact ⟨b, off, hA, fun k hk' => rangeAt_below (hk k hk') (Below.drew (Below.refl _ _))⟩⟩
theorem Src.alloc {w : World} {A : Option Addr} {m : Nat} {news : List (List Value)} (h : Src w sz A m news) (o : Obj) : Src (w.alloc o) sz A m news :=
  ⟨h.1, h.2.1, fun hm => by obtain ⟨b, off, hA, hk⟩ := h.2.2 hm; exact ⟨b, off, hA, fun k hk' => rangeAt_below (hk k hk') (Below.alloc (Below.refl _ _) (Nat.le_refl _) _)⟩⟩
theorem Src.grown {w w' : World} {g : Nat} {m : Nat} {news : List (List Value)} {row : Option Nat} (h : Src w sz (some ⟨g, 0, none⟩) m news) (hg : w.grownBy w' row) (hne : row ≠ some g) : Src w' sz (some ⟨g, 0, none⟩) m news := by
  refine ⟨h.1, h.2.1, fun hm => ?_⟩
  obtain ⟨b, off, hA, hk⟩ := h.2.2 hm
  obtain rfl : g = b := by simpa using congrArg (fun a => a.map Addr.block) hA
  refine ⟨_, off, hA, fun k hk' j u hu => ?_⟩
  have h1 := hk k hk' j u hu
  have hlt := block_lt_of_cell h1
  exact (by
    have := hg.block g hlt (fun e => hne e.symm)
    unfold World.cell? at h1 ⊢
    rw [this]
    exact h1)

/-- append(s, xs...) onto a row of the call's own, as a step of a region that draws. -/
theorem Ty.stepAppend (T : Ty P t e zv z sz bytes) {w0 w : World} {ops : Array Oper} {o : Oper} {a : Act} {K : Act → World → Prop} {Q : Exit → Act → World → Prop} {E : Prop} (hgd : o.guard = none) (s x : Operand)
    (ho : o.op = .call { callee := .builtin .append, args := #[s, x], argTypes := #[t, t] })
    (v : Value) (ys : List (List Value)) (hs : a.eval s = v) (hown : Own w0 e sz w v ys) (A : Option Addr) (m c : Nat) (news : List (List Value)) (hx : a.eval x = .slice A m c) (hsrc : Src w sz A m news)
    (hn : ys.length + m ≤ 2147483648)
    (h : ∀ v' w', Own w0 e sz w' v' (ys ++ news) → w.grownBy w' v.ownBlock → (v'.ownBlock = v.ownBlock ∨ v'.ownBlock = some w.heap.size) → K (a.put o.dst v') w') :
    if Region.wanted o (yielded ops a.tmps) = true then Oper.wp P o a w K Q else E := by
  have hw : Region.wanted o (yielded ops a.tmps) = true := by simp [Region.wanted, hgd]
  rw [if_pos hw]
  obtain ⟨v', w', hrun, h2, h3, h4⟩ := append_run T hown.1 o.type A m c news hsrc hn hown.2.size
  unfold Oper.wp execOp
  simp only [ho, resolve, invoke, builtin, Sem.run_bind, Sem.run_pure, Result.andThen_ok, List.map_toArray, List.map_cons, List.map_nil, hs, hx, hrun]
  exact h v' w' ⟨h2, hown.2.grown h3 hown.2.size (fun q hq => (hown.1.lt q hq).1)⟩ h3 h4
theorem Ty.stepAppendOld (T : Ty P t e zv z sz bytes) {w0 w : World} {ops : Array Oper} {o : Oper} {a : Act} {K : Act → World → Prop} {Q : Exit → Act → World → Prop} {E : Prop} (hgd : o.guard = none) (s x : Operand)
    (ho : o.op = .call { callee := .builtin .append, args := #[s, x], argTypes := #[t, t] })
    (v : Value) (ys : List (List Value)) (hs : a.eval s = v) (hown : Own w0 e sz w v ys) (A : Option Addr) (m c : Nat) (news : List (List Value)) (hx : a.eval x = .slice A m c) (hsrc : Old w0 sz A m news)
    (hn : ys.length + m ≤ 2147483648)
    (h : ∀ v' w', Own w0 e sz w' v' (ys ++ news) → w.grownBy w' v.ownBlock → (v'.ownBlock = v.ownBlock ∨ v'.ownBlock = some w.heap.size) → K (a.put o.dst v') w') :
    if Region.wanted o (yielded ops a.tmps) = true then Oper.wp P o a w K Q else E :=
  T.stepAppend hgd s x ho v ys hs hown A m c news hx (Old.now hsrc hown.2) hn h
/-- A block known whole: a literal. -/
def LitAt (w : World) (g : Nat) (e : TypeId) (cs : List Value) : Prop := w.heap[g]? = some (.cells cs.toArray e (0, 0))
theorem LitAt.new (W : World) (e : TypeId) (cs : List Value) (g : Nat) (hg : W.heap.size = g) : LitAt (W.alloc (.cells cs.toArray e)) g e cs := by
  subst hg
  exact heap_alloc_new W _
theorem LitAt.lt {w : World} {g : Nat} {cs : List Value} (h : LitAt w g e cs) : g < w.heap.size := by
  rcases Nat.lt_or_ge g w.heap.size with h1 | h1
  · exact h1
  · unfold LitAt at h; rw [Array.getElem?_eq_none h1] at h; cases h
theorem LitAt.drew {w : World} {g : Nat} {cs : List Value} (h : LitAt w g e cs) : LitAt w.drew g e cs := h
theorem LitAt.alloc {w : World} {g : Nat} {cs : List Value} (h : LitAt w g e cs) (o : Obj) : LitAt (w.alloc o) g e cs := by
  unfold LitAt
  rw [heap_alloc_old w o h.lt]
  exact h
theorem LitAt.grown {w w' : World} {g : Nat} {cs : List Value} {row : Option Nat} (h : LitAt w g e cs) (hg : w.grownBy w' row) (hne : row ≠ some g) : LitAt w' g e cs := by
  unfold LitAt
  rw [hg.block g h.lt (fun e => hne e.symm)]
  exact h
theorem LitAt.below {w w' : World} {g : Nat} {cs : List Value} (h : LitAt w g e cs) (hb : Below w.heap.size w w') : LitAt w' g e cs := by
  unfold LitAt
  rw [hb.block g h.lt]
  exact h
theorem LitAt.range {w : World} {g : Nat} {cs : List Value} (h : LitAt w g e cs) : w.rangeAt g 0 cs := by
  intro j u hu
  unfold LitAt at h
  simp [World.cell?, h, hu]
theorem LitAt.src {w : World} {g : Nat} {cs : List Value} (h : LitAt w g e cs) (hsz : cs.length = sz) (h1 : ∀ u ∈ cs, u.oneCell' = true) : Src w sz (some ⟨g, 0, none⟩) 1 [cs] := by
  refine ⟨rfl, fun y hy => ?_, fun _ => ⟨_, 0, rfl, fun k hk => ?_⟩⟩
  · obtain rfl : y = cs := by simpa using hy
    exact ⟨hsz, h1⟩
  · obtain rfl : k = 0 := by simpa using hk
    simpa using h.range
theorem LitAt.shape {w : World} {g : Nat} {cs : List Value} (h : LitAt w g e cs) : w.shape? g = some (e, cs.length) := by
  unfold LitAt at h
  simp [World.shape?, h]
theorem LitAt.frozen {w : World} {g : Nat} {cs : List Value} (h : LitAt w g e cs) (o : Nat) : w.frozen? ⟨g, o, none⟩ = false := by
  unfold LitAt at h
  simp [World.frozen?, h]
theorem Row.shape {base : Nat} {w : World} {g n cap : Nat} {ys : List (List Value)} (h : Row base e sz w (.slice (some ⟨g, 0, none⟩) n cap) ys) (hn : 0 < ys.length) (hs : 0 < sz := by decide) : ∃ kB, w.shape? g = some (e, kB) ∧ kB ≠ 0 := by
  rcases h.2.2 with ⟨h', _⟩ | ⟨g', cap', cur, h', hb, hg, hnc, hcm, hcs, htake⟩
  · simp at h'
  · simp only [Value.slice.injEq, Option.some.injEq, Addr.mk.injEq, and_true] at h'
    obtain ⟨rfl, hnn, rfl⟩ := h'
    refine ⟨cur.size, by simp [World.shape?, hg], ?_⟩
    rw [hcs]
    exact Nat.mul_ne_zero (by omega) (by omega)
theorem range_grown_ {w w' : World} {b o : Nat} {cs : List Value} {row : Option Nat} (h : w.rangeAt b o cs) (hg : w.grownBy w' row) (hne : row ≠ some b) : w'.rangeAt b o cs := by
  intro j u hu
  have h1 := h j u hu
  have := hg.block b (block_lt_of_cell h1) (fun e => hne e.symm)
  unfold World.cell? at h1 ⊢
  rw [this]
  exact h1
/-- What writes only to a block that is new is no growth of any old row. -/
theorem grown_old {w w1 w2 : World} {row : Option Nat} (h1 : Below w.heap.size w w1) (h2 : w1.grownBy w2 (some w.heap.size)) : w.grownBy w2 row :=
  ⟨h2.os.trans h1.os, h2.tape.trans h1.tape, h2.output.trans h1.output, Nat.le_trans h1.size h2.size, fun k hk _ => (h2.block k (Nat.lt_of_lt_of_le hk h1.size) (fun e => by simp at e; omega)).trans (h1.block k hk)⟩
/-- A row with room, one longer: what stands in the new place is anything. -/
theorem Row.extend {base : Nat} {w : World} {g n cap : Nat} {ys : List (List Value)} (h : Row base e sz w (.slice (some ⟨g, 0, none⟩) n cap) ys) (hroom : ys.length + 1 ≤ cap) :
    ∃ junk, Row base e sz w (.slice (some ⟨g, 0, none⟩) (ys.length + 1) cap) (ys ++ [junk]) := by
  rcases h.2.2 with ⟨h', _⟩ | ⟨g', cap', cur, h', hb, hg, hnc, hcm, hcs, htake⟩
  · simp at h'
  · simp only [Value.slice.injEq, Option.some.injEq, Addr.mk.injEq, and_true] at h'
    obtain ⟨rfl, hnn, rfl⟩ := h'
    have hle : (ys.length + 1) * sz ≤ cap * sz := Nat.mul_le_mul_right _ hroom
    rw [Nat.add_mul, Nat.one_mul] at hle
    have hj : ((cur.toList.drop (ys.length * sz)).take sz).length = sz := by simp only [List.length_take, List.length_drop, Array.length_toList, hcs]; omega
    have hy : ∀ y ∈ ys ++ [(cur.toList.drop (ys.length * sz)).take sz], y.length = sz := by
      intro y hy
      rcases List.mem_append.1 hy with hy | hy
      · exact h.1 y hy
      · rw [List.mem_singleton.1 hy]; exact hj
    refine ⟨(cur.toList.drop (ys.length * sz)).take sz, hy, ?_⟩
    refine ⟨flat_len sz _ hy, .inr ⟨g, cap, cur, by simp, hb, hg, by simpa using hroom, hcm, hcs, ?_⟩⟩
    rw [List.length_append, List.length_singleton, Nat.add_mul, Nat.one_mul, List.flatten_append, List.take_add, htake]
    simp
theorem Row.parts {base : Nat} {w : World} {v : Value} {ys : List (List Value)} (h : Row base e sz w v ys) : ∃ A c, v = .slice A ys.length c ∧ ys.length ≤ c ∧ c ≤ 9223372036854775807 := by
  rcases h.2.2 with ⟨rfl, hn⟩ | ⟨g, cap, cur, rfl, _, hg, hnc, hcm, hcs, htake⟩
  · exact ⟨_, 0, by rw [hn], by omega, by omega⟩
  · exact ⟨_, cap, rfl, hnc, by simpa [maxLen] using hcm⟩
theorem Src.zero (w : World) (sz : Nat) (A : Option Addr) : Src w sz A 0 [] := ⟨rfl, by simp, fun h => absurd h (by omega)⟩
theorem Src.take {w : World} {A : Option Addr} {m : Nat} {news : List (List Value)} (h : Src w sz A m news) {k : Nat} (hk : k ≤ m) : Src w sz A k (news.take k) := by
  refine ⟨by rw [List.length_take, h.1]; omega, fun y hy => h.2.1 y (List.mem_of_mem_take hy), fun h0 => ?_⟩
  obtain ⟨b, off, hA, hk'⟩ := h.2.2 (by omega)
  refine ⟨b, off, hA, fun j hj => ?_⟩
  rw [List.getElem_take]
  exact hk' j (by simp at hj; omega)
theorem Src.drop {w : World} {A : Option Addr} {m : Nat} {news : List (List Value)} (h : Src w sz A m news) {k : Nat} (hk : k ≤ m) : Src w sz (A.map fun a => a.add (k * sz)) (m - k) (news.drop k) := by
  refine ⟨by rw [List.length_drop, h.1], fun y hy => h.2.1 y (List.mem_of_mem_drop hy), fun h0 => ?_⟩
  obtain ⟨b, off, rfl, hk'⟩ := h.2.2 (by omega)
  refine ⟨b, off + k * sz, ?_, fun j hj => ?_⟩
  · simp [Addr.add]
  · rw [List.getElem_drop]
    have := hk' (k + j) (by simp at hj; omega)
    rw [Nat.add_mul, ← Nat.add_assoc] at this
    exact this
/-- A row of the call's own is what an append takes. -/
theorem Row.src {α : Type} {enc : α → List Value} {base : Nat} {w : World} {A : Option Addr} {n c : Nat} {xs : List α} (h : Row base e sz w (.slice A n c) (xs.map enc)) (hl : ∀ x, (enc x).length = sz) (h1 : ∀ x, ∀ u ∈ enc x, u.oneCell' = true) : Src w sz A n (xs.map enc) :=
  Src.of_sl (Sl.of_flat h) hl h1
/-- What is cut off behind k, the capacity being c. -/
theorem Src.cut {w : World} {A : Option Addr} {m c : Nat} {news : List (List Value)} (h : Src w sz A m news) {k : Nat} (hk : k ≤ m) (hc : m ≤ c) : Src w sz (if c = k then A else A.map fun a => a.add (k * sz)) (m - k) (news.drop k) := by
  by_cases e : c = k
  · rw [if_pos e]
    obtain rfl : m = k := by omega
    have : news.drop m = [] := List.drop_eq_nil_of_le (by rw [h.1]; exact Nat.le_refl _)
    rw [this, Nat.sub_self]
    exact Src.zero _ _ _
  · rw [if_neg e]; exact h.drop hk
end
end Go.Proofs.Ytabgmbmaakglkaa
