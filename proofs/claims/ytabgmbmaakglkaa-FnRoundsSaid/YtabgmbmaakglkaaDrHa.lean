/- A heat in a variable of a drawing in course. No condition. -/
import Derived.Test.YtabgmbmaakglkaaDrw
import Derived.Test.YtabgmbmaakglkaaHt
import Derived.Test.YtabgmbmaakglkaaHtN
import Derived.Test.YtabgmbmaakglkaaHtA
import Derived.Deep.RegionLaw
import Derived.Deep.DeepCutAuto
import Derived.Deep.CutBlock
namespace Go.Proofs.Ytabgmbmaakglkaa
open Go Go.RowKit

theorem LitAt.setNe_ {e : TypeId} {w : World} {g q o : Nat} {cs : List Value} (h : LitAt w g e cs) (hne : g ≠ q) (u : Value) : LitAt (w.setCell ⟨q, o, none⟩ u) g e cs := h.grown grown_setCell (fun e => hne (Option.some.inj e).symm)
abbrev zHeat : List Value := [.slice none 0 0, .slice none 0 0]
/-- A heat in a variable (block g); the result's variable (block gz) is untouched; its slices are rows of the call's own. -/
structure InHt (gz g base c : Nat) (w wx : World) (n : Nat) (A : Option Addr) (m d : Nat) (B : Option Addr) (k e : Nat) (rs ts : List Int) : Prop where
  dr : Dr c w wx n
  zero : LitAt wx gz 28 zHeat
  lit : LitAt wx g 28 [.slice A m d, .slice B k e]
  r1 : Row base 3 1 wx (.slice A m d) (rs.map ints)
  r2 : Row base 3 1 wx (.slice B k e) (ts.map ints)
  dis : Dis (.slice A m d) (.slice B k e)
  apart : gz < g ∧ g < base ∧ c < gz ∧ gz = w.heap.size ∧ c < w.heap.size
namespace InHt
variable {gz g base c : Nat} {w wx wy : World} {n n' : Nat} {A : Option Addr} {m d : Nat} {B : Option Addr} {k e : Nat} {rs ts : List Int}
theorem below (h : InHt gz g base c w wx n A m d B k e rs ts) (hb : Below wx.heap.size wx wy) : InHt gz g base c w wy n A m d B k e rs ts :=
  ⟨h.dr.below hb, h.zero.below hb, h.lit.below hb, h.r1.below hb, h.r2.below hb, h.dis, h.apart⟩
theorem mono (h : InHt gz g base c w wx n A m d B k e rs ts) (hn : n ≤ n') : InHt gz g base c w wx n' A m d B k e rs ts := ⟨h.dr.mono hn, h.zero, h.lit, h.r1, h.r2, h.dis, h.apart⟩
theorem keptC (h : InHt gz g base c w wx n A m d B k e rs ts) (hd : Dr c w wy n') (hg : wx.grownBy wy (some c)) : InHt gz g base c w wy n' A m d B k e rs ts := by
  have ha := h.apart
  exact ⟨hd, h.zero.keptC (by omega) hg, h.lit.keptC (by omega) hg, h.r1.keptC (by omega) hg, h.r2.keptC (by omega) hg, h.dis, h.apart⟩
theorem cells (h : InHt gz g base c w wx n A m d B k e rs ts) : wx.cell? ⟨g, 0, none⟩ = some (.slice A m d) ∧ wx.cell? ⟨g, 1, none⟩ = some (.slice B k e) ∧ wx.frozen? ⟨g, 0, none⟩ = false ∧ wx.frozen? ⟨g, 1, none⟩ = false := by
  have r := h.lit.range
  have h0 := r 0 _ rfl
  have h1 := r 1 _ rfl
  simp only [Nat.zero_add] at h0 h1
  exact ⟨h0, h1, h.lit.frozen _, h.lit.frozen _⟩
/-- A runner appended, and the slice stored. -/
theorem push1 (h : InHt gz g base c w wx n A m d B k e rs ts) {x : Int} {A' : Option Addr} {m' d' : Nat} (hr : Row base 3 1 wy (.slice A' m' d') (rs.map ints ++ [ints x])) (hg : wx.grownBy wy (Value.slice A m d).ownBlock) (hat : (Value.slice A' m' d').ownBlock = (Value.slice A m d).ownBlock ∨ (Value.slice A' m' d').ownBlock = some wx.heap.size) :
    InHt gz g base c w (wy.setCell ⟨g, 0, none⟩ (.slice A' m' d')) n A' m' d' B k e (rs ++ [x]) ts := by
  have ha := h.apart
  have hl := h.lit.lt
  have hbb : ∀ b, (Value.slice A m d).ownBlock = some b → base ≤ b := fun b hb => (h.r1.lt b hb).1
  have hbr : ∀ b, (Value.slice A' m' d').ownBlock = some b → base ≤ b := fun b hb => (hr.lt b hb).1
  have hbt : ∀ b, (Value.slice B k e).ownBlock = some b → base ≤ b := fun b hb => (h.r2.lt b hb).1
  have hd := h.dr.own ha.2.2.2.2 hg (fun k e => by have := hbb k e; omega)
  have hz := h.zero.grown hg (fun e => by have := hbb gz e; omega)
  have hll := h.lit.grown hg (fun e => by have := hbb g e; omega)
  refine ⟨hd.own ha.2.2.2.2 grown_setCell (fun k e => by have := Option.some.inj e; omega), hz.setNe_ (by omega) _, hll.put_ 0 (.slice A' m' d'), Row.putNe_ (by simpa using hr) (fun e => by have := hbr g e; omega) _, Row.putNe_ (h.r2.kept hg h.dis.symm.or) (fun e => by have := hbt g e; omega) _, (h.dis.symm.grown hat (fun q hq => (h.r2.lt q hq).2)).symm, h.apart⟩
theorem push2 (h : InHt gz g base c w wx n A m d B k e rs ts) {x : Int} {A' : Option Addr} {m' d' : Nat} (hr : Row base 3 1 wy (.slice A' m' d') (ts.map ints ++ [ints x])) (hg : wx.grownBy wy (Value.slice B k e).ownBlock) (hat : (Value.slice A' m' d').ownBlock = (Value.slice B k e).ownBlock ∨ (Value.slice A' m' d').ownBlock = some wx.heap.size) :
    InHt gz g base c w (wy.setCell ⟨g, 1, none⟩ (.slice A' m' d')) n A m d A' m' d' rs (ts ++ [x]) := by
  have ha := h.apart
  have hl := h.lit.lt
  have hbb : ∀ b, (Value.slice B k e).ownBlock = some b → base ≤ b := fun b hb => (h.r2.lt b hb).1
  have hbr : ∀ b, (Value.slice A' m' d').ownBlock = some b → base ≤ b := fun b hb => (hr.lt b hb).1
  have hbt : ∀ b, (Value.slice A m d).ownBlock = some b → base ≤ b := fun b hb => (h.r1.lt b hb).1
  have hd := h.dr.own ha.2.2.2.2 hg (fun k e => by have := hbb k e; omega)
  have hz := h.zero.grown hg (fun e => by have := hbb gz e; omega)
  have hll := h.lit.grown hg (fun e => by have := hbb g e; omega)
  refine ⟨hd.own ha.2.2.2.2 grown_setCell (fun k e => by have := Option.some.inj e; omega), hz.setNe_ (by omega) _, hll.put_ 1 (.slice A' m' d'), Row.putNe_ (h.r1.kept hg h.dis.or) (fun e => by have := hbt g e; omega) _, Row.putNe_ (by simpa using hr) (fun e => by have := hbr g e; omega) _, h.dis.grown hat (fun q hq => (h.r1.lt q hq).2), h.apart⟩
/-- A number written into the runners' row. -/
theorem row_put {base : Nat} {e : TypeId} {w : World} {g n cap : Nat} {xs : List Int} (h : Row base e 1 w (.slice (some ⟨g, 0, none⟩) n cap) (xs.map ints)) {k : Nat} (hk : k < xs.length) (u : Int) :
    Row base e 1 (w.setCell ⟨g, k, none⟩ (.int .i64 u)) (.slice (some ⟨g, 0, none⟩) n cap) ((xs.set k u).map ints) := by
  have hk' : k < (xs.map ints).length := by simpa using hk
  have h1 := h.stored (k := k) (j := 0) hk' (by omega) (.int .i64 u)
  have hl := h.1 _ (List.getElem_mem hk')
  obtain ⟨a, ha⟩ := List.length_eq_one_iff.1 hl
  rw [ha] at h1
  simpa [ints, List.map_set] using h1.1
theorem put1 {q : Nat} (h : InHt gz g base c w wx n (some ⟨q, 0, none⟩) m d B k e rs ts) (h0 : 0 < rs.length) (x : Int) : InHt gz g base c w (wx.setCell ⟨q, 0, none⟩ (.int .i64 x)) n (some ⟨q, 0, none⟩) m d B k e (rs.set 0 x) ts := by
  have ha := h.apart
  have hq := (h.r1.lt q rfl).1
  exact ⟨h.dr.own ha.2.2.2.2 grown_setCell (fun k e => by have := Option.some.inj e; omega), h.zero.setNe_ (by omega) _, h.lit.setNe_ (by omega) _, row_put h.r1 h0 x, Row.putNe_ h.r2 (h.dis q rfl) _, h.dis, h.apart⟩
theorem put2 {q : Nat} (h : InHt gz g base c w wx n A m d (some ⟨q, 0, none⟩) k e rs ts) (h0 : 0 < ts.length) (x : Int) : InHt gz g base c w (wx.setCell ⟨q, 0, none⟩ (.int .i64 x)) n A m d (some ⟨q, 0, none⟩) k e rs (ts.set 0 x) := by
  have ha := h.apart
  have hq := (h.r2.lt q rfl).1
  exact ⟨h.dr.own ha.2.2.2.2 grown_setCell (fun k e => by have := Option.some.inj e; omega), h.zero.setNe_ (by omega) _, h.lit.setNe_ (by omega) _, Row.putNe_ h.r1 (h.dis.symm q rfl) _, row_put h.r2 h0 x, h.dis, h.apart⟩
end InHt
/-- .. at the end: its slices read as lists, their blocks are new. -/
structure EndHt (gz g c : Nat) (w wx : World) (n : Nat) (A : Option Addr) (m d : Nat) (B : Option Addr) (k e : Nat) (rs ts : List Int) : Prop where
  dr : Dr c w wx n
  zero : LitAt wx gz 28 zHeat
  lit : LitAt wx g 28 [.slice A m d, .slice B k e]
  s1 : Sl (Flat ints) 1 wx (.slice A m d) rs
  s2 : Sl (Flat ints) 1 wx (.slice B k e) ts
  far : ∀ q, ((Value.slice A m d).ownBlock = some q ∨ (Value.slice B k e).ownBlock = some q) → w.heap.size + 2 ≤ q ∧ q < wx.heap.size
  lens : rs.length ≤ 8 ∧ ts.length ≤ 8
  apart : gz < g ∧ g = w.heap.size + 1 ∧ c < gz ∧ gz = w.heap.size ∧ c < w.heap.size
theorem InHt.end_ {gz g base c : Nat} {w wx : World} {n : Nat} {A : Option Addr} {m d : Nat} {B : Option Addr} {k e : Nat} {rs ts : List Int} (h : InHt gz g base c w wx n A m d B k e rs ts) (hb : base = w.heap.size + 2) (hg : g = w.heap.size + 1) (h1 : rs.length ≤ 8) (h2 : ts.length ≤ 8) : EndHt gz g c w wx n A m d B k e rs ts := by
  subst hb
  refine ⟨h.dr, h.zero, h.lit, Sl.of_flat h.r1, Sl.of_flat h.r2, fun q hq => hq.elim (fun e => h.r1.lt q e) (fun e => h.r2.lt q e), ⟨h1, h2⟩, by have := h.apart; omega⟩
/-- What a slice reads, where only the cursor steps. -/
theorem Sl.keptG {α : Type} {enc : α → List Value} {sz : Nat} {w w' : World} {v : Value} {xs : List α} {row : Option Nat} (h : Sl (Flat enc) sz w v xs) (hg : w.grownBy w' row) (hne : ∀ q, v.ownBlock = some q → row ≠ some q) : Sl (Flat enc) sz w' v xs := by
  obtain ⟨A, c, rfl, hc, hm, hk⟩ := h
  refine ⟨A, c, rfl, hc, hm, fun hn => ?_⟩
  obtain ⟨b, off, rfl, hat⟩ := hk hn
  refine ⟨b, off, rfl, fun k hk' => ?_⟩
  obtain ⟨cs, h1, h2, h3⟩ := hat k hk'
  exact ⟨cs, h1, range_grown_ h2 hg (hne b rfl), h3⟩
theorem InHt.tail2 {gz g base c : Nat} {w wx : World} {n q : Nat} {A : Option Addr} {m d : Nat} {k e : Nat} {rs ts : List Int} (h : InHt gz g base c w wx n A m d (some ⟨q, 0, none⟩) k e rs ts) (hb : base = w.heap.size + 2) (hg : g = w.heap.size + 1) (h1 : rs.length ≤ 8) (h2 : ts.length ≤ 8) (h3 : 1 ≤ ts.length) :
    EndHt gz g c w (wx.setCell ⟨g, 1, none⟩ (.slice (some ⟨q, 1, none⟩) (ts.length - 1) (e - 1))) n A m d (some ⟨q, 1, none⟩) (ts.length - 1) (e - 1) rs (ts.drop 1) := by
  have ha := h.apart
  have he := h.end_ hb hg h1 h2
  obtain ⟨A', c', hv, hc, hm, hk⟩ := he.s2
  simp only [Value.slice.injEq] at hv
  obtain ⟨rfl, rfl, rfl⟩ := hv
  obtain ⟨b, off, hA, hat⟩ := hk (by omega)
  simp only [Option.some.injEq, Addr.mk.injEq, and_true] at hA
  obtain ⟨rfl, rfl⟩ := hA
  have hs : Sl (Flat ints) 1 wx (.slice (some ⟨q, 1, none⟩) (ts.length - 1) (e - 1)) (ts.drop 1) := by
    refine ⟨some ⟨q, 1, none⟩, e - 1, by simp, by simp; omega, by omega, fun hn => ⟨q, 1, rfl, fun j hj => ?_⟩⟩
    obtain ⟨cs, g1, g2, g3⟩ := hat (j + 1) (by simp at hj; omega)
    refine ⟨cs, g1, ?_, ?_⟩
    · have e9 : 0 + (j + 1) * 1 = 1 + j * 1 := by omega
      rwa [e9] at g2
    · rw [List.getElem_drop]
      have e9 : 1 + j = j + 1 := by omega
      simp only [e9]
      exact g3
  have hqq := he.far q (.inr rfl)
  have hne : ∀ q', ((Value.slice A m d).ownBlock = some q' ∨ q' = q) → (some g : Option Nat) ≠ some q' := fun q' hq' e => by
    have e' := Option.some.inj e
    rcases hq' with h' | h'
    · have := he.far q' (.inl h'); omega
    · omega
  refine ⟨he.dr.own ha.2.2.2.2 grown_setCell (fun k e => by have := Option.some.inj e; omega), he.zero.setNe_ (by omega) _, he.lit.put_ 1 _, he.s1.keptG grown_setCell (fun q' hq' => hne q' (.inl hq')), hs.keptG grown_setCell (fun q' hq' => hne q' (.inr (by simp [Value.ownBlock] at hq'; exact hq'.symm))), fun q' hq' => hq'.elim (fun h' => by have := he.far q' (.inl h'); simp; omega) (fun h' => by simp [Value.ownBlock] at h'; simp; omega), ⟨h1, by simp; omega⟩, he.apart⟩
theorem InHt.cut11 {gz g base c : Nat} {w wx : World} {n : Nat} {A : Option Addr} {m d : Nat} {B : Option Addr} {k e : Nat} {rs ts : List Int} (h : InHt gz g base c w wx n A m d B k e rs ts) (hb : base = w.heap.size + 2) (hg : g = w.heap.size + 1) (h1 : rs.length ≤ 8) (h2 : ts.length ≤ 8) (h3 : 1 ≤ m) (h4 : 1 ≤ k) :
    EndHt gz g c w ((wx.setCell ⟨g, 0, none⟩ (.slice A 1 d)).setCell ⟨g, 1, none⟩ (.slice B 1 e)) n A 1 d B 1 e (rs.take 1) (ts.take 1) := by
  have ha := h.apart
  have he := h.end_ hb hg h1 h2
  have s1 := Sl.front he.s1 h3
  have s2 := Sl.front he.s2 h4
  have o1 : ∀ x : Nat, (Value.slice A x d).ownBlock = (Value.slice A m d).ownBlock := fun x => by cases A <;> rfl
  have o2 : ∀ x : Nat, (Value.slice B x e).ownBlock = (Value.slice B k e).ownBlock := fun x => by cases B <;> rfl
  have hne : ∀ q', ((Value.slice A 1 d).ownBlock = some q' ∨ (Value.slice B 1 e).ownBlock = some q') → (some g : Option Nat) ≠ some q' := fun q' hq' e' => by
    rw [o1, o2] at hq'
    have := he.far q' hq'
    have := Option.some.inj e'
    omega
  have hgg : wx.grownBy ((wx.setCell ⟨g, 0, none⟩ (.slice A 1 d)).setCell ⟨g, 1, none⟩ (.slice B 1 e)) (some g) := grown_trans grown_setCell grown_setCell
  refine ⟨he.dr.own ha.2.2.2.2 hgg (fun k e => by have := Option.some.inj e; omega), (he.zero.setNe_ (by omega) _).setNe_ (by omega) _, (he.lit.put_ 0 _).put_ 1 _, s1.keptG hgg (fun q' hq' => hne q' (.inl hq')), s2.keptG hgg (fun q' hq' => hne q' (.inr hq')), fun q' hq' => by rw [o1, o2] at hq'; have := he.far q' hq'; simp; omega, ⟨by simp; omega, by simp; omega⟩, he.apart⟩
theorem Ht.In.keptG {w w' : World} {p : Ht} {row : Option Nat} (h : p.In w) (hg : w.grownBy w' row) (hne : ∀ q, (p.rv.ownBlock = some q ∨ p.tv.ownBlock = some q) → row ≠ some q) : p.In w' :=
  ⟨h.1.keptG hg (fun q hq => hne q (.inl hq)), h.2.keptG hg (fun q hq => hne q (.inr hq))⟩
end Go.Proofs.Ytabgmbmaakglkaa
