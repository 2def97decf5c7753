/- What an argument holds, by the shape of its type: a plan of its cells, and the law that a reading meets the plan. Plain; no condition. -/
import Derived.WalkKit
import Derived.ProofKit
import Derived.Deep.Slices
import Derived.DataReads
namespace Go.Proofs.Ytabgmbmaakglkaa
open Go Go.RowKit Go.ChangeShapes Go.WideShapes Go.Deep

inductive Sh where
  | int (k : IntKind)
  | bool
  | sl (e : TypeId) (sh : Sh)
  | str (fs : Array Field) (sh : Sh)
  | emp
  | cat (t : TypeId) (a b : Sh)

def Sh.size : Sh → Nat
  | .int _ => 1
  | .bool => 1
  | .sl _ _ => 1
  | .str _ s => s.size
  | .emp => 0
  | .cat _ a b => a.size + b.size

def Fit (P : Program) : Sh → TypeId ⊕ (List Field × Nat) → Prop
  | .int k, .inl t => P.underlying t = some (.int k)
  | .bool, .inl t => P.underlying t = some .bool
  | .sl e sh, .inl t => P.underlying t = some (.slice e) ∧ P.cellsOf e = sh.size ∧ 0 < sh.size ∧ Fit P sh (.inl e)
  | .str fs sh, .inl t => P.underlying t = some (.struct fs) ∧ P.cellsOf t = sh.size ∧ Fit P sh (.inr (fs.toList, 0))
  | .emp, .inr x => x.1 = []
  | .cat t a b, .inr x => ∃ f fs, x.1 = f :: fs ∧ f.offset = x.2 ∧ f.type = t ∧ P.cellsOf t = a.size ∧ Fit P a (.inl t) ∧ Fit P b (.inr (fs, x.2 + a.size))
  | _, _ => False

def Holds (w : World) : Sh → List Value → Prop
  | .int k, cs => ∃ n, cs = [.int k n] ∧ (Lit.int k n).wf = true
  | .bool, cs => ∃ b, cs = [.bool b]
  | .sl _ sh, cs => ∃ A n c, cs = [.slice A n c] ∧ n ≤ c ∧ c ≤ maxLen ∧ (0 < n → ∃ b off, A = some ⟨b, off, none⟩ ∧
      ∀ i, i < n → ∃ cs', cs'.length = sh.size ∧ (∀ j u, cs'[j]? = some u → w.cell? ⟨b, off + i * sh.size + j, none⟩ = some u) ∧ Holds w sh cs')
  | .str _ sh, cs => Holds w sh cs
  | .emp, cs => cs = []
  | .cat _ a b, cs => ∃ c1 c2, cs = c1 ++ c2 ∧ c1.length = a.size ∧ Holds w a c1 ∧ Holds w b c2

theorem add_flat (a : Addr) (h : a.spot = none) (n m : Nat) : (a.add n).add m = ⟨a.block, a.off + n + m, none⟩ := by
  obtain ⟨b, o, s⟩ := a
  simp only at h
  subst h
  unfold Addr.add
  by_cases hn : n = 0 <;> by_cases hm : m = 0 <;> simp [hn, hm]

section
variable {H : Type} {enc : TypeId × Value → H} {P : Program} {w : World} {base : Nat} {spare : Nat → Bool} {held : Bool}

def OkAt (enc : TypeId × Value → H) (P : Program) (w : World) (base : Nat) (spare : Nat → Bool) (held : Bool) (sh : Sh) : TypeId ⊕ (List Field × Nat) → Prop
  | .inl t => ∀ (fuel : Nat) (cs : List Value) (y : DataW H × List MemPlace), DataW.trod enc P w base spare held fuel t cs = some y → cs.length = sh.size → Holds w sh cs
  | .inr x => ∀ (cs : List Value), (∀ f ∈ x.1, ∃ n y, DataW.trod enc P w base spare held n f.type ((cs.drop f.offset).take (P.cellsOf f.type)) = some y) → cs.length = x.2 + sh.size → Holds w sh (cs.drop x.2)

theorem okAt (sh : Sh) : ∀ x, Fit P sh x → OkAt enc P w base spare held sh x := by
  induction sh with
  | int k =>
    intro x hx
    rcases x with t | x
    · intro fuel cs y h _
      obtain ⟨n, rfl, _, hw⟩ := DataW.trod_int hx h
      exact ⟨n, rfl, hw⟩
    · exact hx.elim
  | bool =>
    intro x hx
    rcases x with t | x
    · intro fuel cs y h _
      obtain ⟨b, rfl, _⟩ := DataW.trod_bool hx h
      exact ⟨b, rfl⟩
    · exact hx.elim
  | sl e sh ih =>
    intro x hx
    rcases x with t | x
    · intro fuel cs y h _
      obtain ⟨ht, he, hpos, hf⟩ := hx
      rcases open_slice ht h with ⟨rfl, _⟩ | ⟨a, len, cap, m, n, D, Pl, rfl, _, hl, hm, hmm, _, hi⟩
      · exact ⟨none, 0, 0, rfl, Nat.le_refl _, Nat.zero_le _, fun h => absurd h (by omega)⟩
      · refine ⟨some a, len, cap, rfl, hl, hm, fun hn => ?_⟩
        have hlm : len ≤ m := by rw [hmm]; split <;> omega
        have hsp : a.spot = none := by
          obtain ⟨cs', hc, _⟩ := hi 0 (by omega)
          obtain ⟨_, _, hat⟩ := World.cells?_some hc
          have h0 := hat 0 (by omega)
          have hl0 : cs'.length = P.cellsOf e := (World.cells?_some hc).2.1
          rw [Nat.zero_mul] at h0
          have e0 : (a.add 0).add 0 = a := by simp [Addr.add]
          rw [e0] at h0
          cases hs : a.spot with
          | none => rfl
          | some q =>
            exfalso
            have hc0 : w.cell? a = none := by
              unfold World.cell?
              split
              · simp [hs]
              · rfl
            rw [hc0] at h0
            have : cs'[0]? = some (cs'[0]'(by omega)) := List.getElem?_eq_getElem (by omega)
            rw [this] at h0
            cases h0
        refine ⟨a.block, a.off, by obtain ⟨b, o, s⟩ := a; simp only at hsp; subst hsp; rfl, fun i hin => ?_⟩
        obtain ⟨cs', hc, ht'⟩ := hi i (by omega)
        obtain ⟨_, hcl, hat⟩ := World.cells?_some hc
        refine ⟨cs', by omega, fun j u hu => ?_, ih (.inl e) hf _ _ _ ht' (by omega)⟩
        have hj : j < cs'.length := (List.getElem?_eq_some_iff.1 hu).1
        have := hat j (by omega)
        rw [add_flat a hsp, he, hu] at this
        exact this
    · exact hx.elim
  | str fs sh ih =>
    intro x hx
    rcases x with t | x
    · intro fuel cs y h hlen
      obtain ⟨ht, hc, hf⟩ := hx
      obtain ⟨xs, n, _, _, hl, hxl, hg⟩ := DataW.trod_struct ht h
      have := ih (.inr (fs.toList, 0)) hf cs (fun f hfm => by
        obtain ⟨i, hi, rfl⟩ := List.getElem_of_mem hfm
        have hi' : i < fs.size := by simpa using hi
        have h1 := hg i fs[i] (Array.getElem?_eq_getElem hi')
        have h2 : xs[i]? = some (xs[i]'(by omega)) := List.getElem?_eq_getElem (by omega)
        rw [h2] at h1
        exact ⟨n, _, by simpa using h1⟩) (by show cs.length = 0 + sh.size; rw [Nat.zero_add]; exact hlen)
      show Holds w sh cs
      simpa using this
    · exact hx.elim
  | emp =>
    intro x hx
    rcases x with t | x
    · exact hx.elim
    · intro cs _ hl
      show cs.drop x.2 = []
      exact List.drop_eq_nil_of_le (by simp [Sh.size] at hl; omega)
  | cat t a b iha ihb =>
    intro x hx
    rcases x with t' | x
    · exact hx.elim
    · intro cs hfs hl
      obtain ⟨f, fs, hx1, ho, rfl, hc, ha, hb⟩ := hx
      obtain ⟨n, y, hy⟩ := hfs f (by rw [hx1]; simp)
      have hsz : (Sh.cat f.type a b).size = a.size + b.size := rfl
      have hlen : ((cs.drop f.offset).take (P.cellsOf f.type)).length = a.size := by
        rw [List.length_take, List.length_drop, hc]; omega
      refine ⟨(cs.drop f.offset).take (P.cellsOf f.type), cs.drop (x.2 + a.size), ?_, hlen, iha (.inl f.type) ha _ _ _ hy hlen, ?_⟩
      · rw [ho, hc, ← List.drop_drop, List.take_append_drop]
      · exact ihb (.inr (fs, x.2 + a.size)) hb cs (fun g hg => hfs g (by rw [hx1]; simp [hg])) (by simp only; omega)

/-- An argument by value: its cells meet the plan. -/
theorem open_plan {r : Reach} {b0 : Nat} {t : TypeId} {fs : Array Field} {sh : Sh} {v : Value} {d : DataW H} {p : List MemPlace} (hf : Fit P (.str fs sh) (.inl t))
    (hv : Value.okWide P w r b0 t v) (h : DataW.Trod enc P w base spare held t v d p) : ∃ cs : List Value, v = .agg cs.toArray ∧ cs.length = sh.size ∧ Holds w sh cs := by
  obtain ⟨cs, rfl, hsz⟩ := okWide_struct hf.1 hv
  obtain ⟨fuel, hf'⟩ := h
  have hl : cs.toList.length = sh.size := by rw [Array.length_toList, hsz, hf.2.1]
  exact ⟨cs.toList, by simp, hl, okAt (.str fs sh) (.inl t) hf fuel _ _ (by simpa [Value.cells] using hf') hl⟩

/-- An argument that is a slice. -/
theorem open_plan_slice {r : Reach} {b0 : Nat} {t e : TypeId} {sh : Sh} {v : Value} {d : DataW H} {p : List MemPlace} (hf : Fit P (.sl e sh) (.inl t))
    (hv : Value.okWide P w r b0 t v) (h : DataW.Trod enc P w base spare held t v d p) : Holds w (.sl e sh) [v] := by
  obtain ⟨a, len, cap, rfl⟩ := okWide_slice hf.1 hv
  obtain ⟨fuel, hf'⟩ := h
  exact okAt (.sl e sh) (.inl t) hf fuel [.slice a len cap] _ (by simpa [Value.cells] using hf') rfl
end

/-- For every index a thing: a list of things. -/
theorem list_of_all {α : Type} (R : Nat → α → Prop) (n : Nat) (h : ∀ i, i < n → ∃ x, R i x) : ∃ l : List α, l.length = n ∧ ∀ i (hi : i < l.length), R i l[i] := by
  induction n with
  | zero => exact ⟨[], rfl, fun i hi => absurd hi (by simp)⟩
  | succ n ih =>
    obtain ⟨l, hl, hr⟩ := ih fun i hi => h i (by omega)
    obtain ⟨x, hx⟩ := h n (by omega)
    refine ⟨l ++ [x], by simp [hl], fun i hi => ?_⟩
    by_cases hin : i < l.length
    · rw [List.getElem_append_left hin]; exact hr i hin
    · have : i = n := by simp at hi; omega
      subst this
      rw [List.getElem_append_right (by omega)]
      simpa using hx
#print axioms open_plan
#print axioms open_plan_slice
end Go.Proofs.Ytabgmbmaakglkaa
