/- Adding a split: the plain law, and one element's slice exchanged in a copy. No condition. -/
import Derived.Test.YtbeonigmcbipeaaPasN
import Derived.Test.YtbeonigmcbipeaaPasI
import Derived.Test.YtbeonigmcbipeaaAreP
import Derived.Test.YtbeonigmcbipeaaIntL
namespace Go.Proofs.Ytbeonigmcbipeaa
open Go Go.RowKit

section
variable {P : Program} {t e : TypeId} {zv : Value} {z : List Value} {sz bytes : Nat}
/-- append(s, xs...) as a step of a region that draws, the row's base any. -/
theorem Ty.stepAppendR (T : Ty P t e zv z sz bytes) {w : World} {ops : Array Oper} {o : Oper} {a : Act} {K : Act → World → Prop} {Q : Exit → Act → World → Prop} {E : Prop} (hgd : o.guard = none) (s x : Operand)
    (ho : o.op = .call { callee := .builtin .append, args := #[s, x], argTypes := #[t, t] })
    (base : Nat) (v : Value) (ys : List (List Value)) (hs : a.eval s = v) (hown : Row base e sz w v ys) (A : Option Addr) (m c : Nat) (news : List (List Value)) (hx : a.eval x = .slice A m c) (hsrc : Src w sz A m news)
    (hn : ys.length + m ≤ 2147483648) (hb : base ≤ w.heap.size)
    (h : ∀ v' w', Row base e sz w' v' (ys ++ news) → w.grownBy w' v.ownBlock → (v'.ownBlock = v.ownBlock ∨ v'.ownBlock = some w.heap.size) → K (a.put o.dst v') w') :
    if Region.wanted o (yielded ops a.tmps) = true then Oper.wp P o a w K Q else E := by
  have hw : Region.wanted o (yielded ops a.tmps) = true := by simp [Region.wanted, hgd]
  rw [if_pos hw]
  obtain ⟨v', w', hrun, h2, h3, h4⟩ := append_run T hown o.type A m c news hsrc hn hb
  unfold Oper.wp execOp
  simp only [ho, resolve, invoke, builtin, Sem.run_bind, Sem.run_pure, Result.andThen_ok, List.map_toArray, List.map_cons, List.map_nil, hs, hx, hrun]
  exact h v' w' h2 h3 h4
end
def addK (t : Int) (k : PK) : PK := ⟨k.runner, k.splits ++ [t]⟩
noncomputable def addC (ks : List PK) (r t : Int) : List PK := match ks.findIdx? (fun k => k.runner == r) with | some i => ks.modify i (addK t) | none => []
noncomputable def addB (ks : List PK) (r t : Int) : Bool := goodPs ks && (ks.findIdx? (fun k => k.runner == r)).isSome && goodPs (addC ks r t)
noncomputable def addL (ks : List PK) (r t : Int) : List PK := if addB ks r t = true then addC ks r t else []
theorem addL_no {ks : List PK} {r t : Int} (h : addB ks r t = false) : addL ks r t = [] := by simp [addL, h]
theorem addB_bad {ks : List PK} {r t : Int} (h : goodPs ks = false) : addB ks r t = false := by simp [addB, h]
theorem addB_none {xs : List Pas} {r t : Int} (h : ∀ x ∈ xs, isRun r x = false) : addB (xs.map Pas.k) r t = false := by
  have : (xs.map Pas.k).findIdx? (fun k => k.runner == r) = none := by
    rw [List.findIdx?_eq_none_iff]
    intro k hk
    obtain ⟨p, hp, rfl⟩ := List.mem_map.1 hk
    exact h p hp
  simp [addB, this]
theorem addC_at {xs : List Pas} {r t : Int} {i : Nat} (hi : i < xs.length) (h : isRun r xs[i] = true) (hb : ∀ j (h : j < xs.length), j < i → isRun r xs[j] = false) : (xs.map Pas.k).findIdx? (fun k => k.runner == r) = some i ∧ addC (xs.map Pas.k) r t = (xs.map Pas.k).modify i (addK t) := by
  have h1 : (xs.map Pas.k).findIdx? (fun k => k.runner == r) = some i := by
    rw [List.findIdx?_eq_some_iff_getElem]
    refine ⟨by simpa using hi, by simpa [isRun] using h, fun j hj => ?_⟩
    have := hb j (by omega) hj
    simpa [isRun] using this
  exact ⟨h1, by simp [addC, h1]⟩
theorem addL_small (ks : List PK) (r t : Int) : (addL ks r t).length ≤ 1048576 ∧ ∀ k ∈ addL ks r t, k.splits.length ≤ 1048576 := by
  unfold addL
  split
  · rename_i h
    simp only [addB, Bool.and_eq_true] at h
    have hg := goodPs_iff.1 h.2
    refine ⟨by have := hg.2; omega, fun k hk => ?_⟩
    obtain ⟨j, hj, rfl⟩ := List.getElem_of_mem hk
    have := (hg.1 j hj).1.2.1
    omega
  · exact ⟨by simp, by simp⟩

section
variable {P : Program} {e : TypeId} {sz : Nat}
/-- xs[k].f = a slice, xs a row of the call's own. -/
theorem putS_ {w : World} {ops : Array Oper} {rest : List Oper} {o : Oper} {a : Act} {Q : Exit → Act → World → Prop} (hgd : o.guard = none) (ti : TypeId) (x y : Operand) (ho : o.op = .store ti x y)
    (hti : (P.info? ti).map (·.size) = some 1) (base g n cap k j off : Nat) (ys : List (List Value)) (A : Option Addr) (m d : Nat) (hown : Row base e sz w (.slice (some ⟨g, 0, none⟩) n cap) ys) (hk : k < ys.length) (hj : j < sz) (hx : a.eval x = .pointer (some ⟨g, off, none⟩)) (hoff : off = k * sz + j) (hy : a.eval y = .slice A m d)
    (h : ∀ w', Row base e sz w' (.slice (some ⟨g, 0, none⟩) n cap) (ys.set k (ys[k].set j (.slice A m d))) → w.grownBy w' (some g) → wpList P ops Q rest (a.put o.dst undef) w') : wpList P ops Q (o :: rest) a w := by
  subst hoff
  obtain ⟨r1, r2⟩ := hown.stored hk hj (.slice A m d)
  refine wpList_plain hgd fun K hK => ?_
  have hlen : ys[k].length = sz := hown.1 _ (List.getElem_mem hk)
  have hc := hown.cell hk hj
  rw [List.getElem?_eq_getElem (by omega)] at hc
  have hfz := hown.frozen (k * sz + j)
  have hrun : (Instr.storeAt ti (.pointer (some ⟨g, k * sz + j, none⟩)) (.slice A m d)).run P w = .ok () (w.setCell ⟨g, k * sz + j, none⟩ (.slice A m d)) := by
    cases hq : P.info? ti with
    | none => simp [hq] at hti
    | some i =>
      have hs : i.size = 1 := by simpa [hq] using hti
      simp [Instr.storeAt, Instr.sureAddr, storeVar, sizeOf, typeInfo, hq, Value.cells, hs, storeCells, go_sem, hc, hfz, Addr.add]
  unfold Oper.wp execOp
  simp only [ho, hx, hy, hrun, Sem.run_bind, Sem.run_pure, Result.andThen_ok]
  exact hK _ _ (h _ r1 r2)
end
theorem PasR.nil {w : World} {base : Nat} : PasR base w (.slice none 0 0) [] := ⟨Row.nil _ _ _ _, fun z hz => absurd hz (by simp), List.Pairwise.nil⟩
theorem infoInts : (Try.prog.info? 38).map (·.size) = some 1 := by kernel_rfl
/-- One element's slice exchanged. -/
theorem PasR.swap {base : Nat} {w w4 w5 : World} {v : Value} {zs : List Pas} (h : PasR base w v zs) {j : Nat} (hj : j < zs.length) (z' : Pas) (hrow : Go.Proofs.Ytbeonigmcbipeaa.Row base 3 1 w4 z'.sv (z'.k.splits.map ints)) (hg : w.grownBy w4 zs[j].sv.ownBlock)
    (hat : ∀ q, z'.sv.ownBlock = some q → zs[j].sv.ownBlock = some q ∨ w.heap.size ≤ q) (hout : Go.Proofs.Ytbeonigmcbipeaa.Row base 49 2 w5 v ((zs.map Pas.lst).set j z'.lst)) (hg2 : w4.grownBy w5 v.ownBlock) : PasR base w5 v (zs.set j z') := by
  have hz := h.2.1 zs[j] (List.getElem_mem hj)
  have hvlt : ∀ q, v.ownBlock = some q → q < w.heap.size := fun q hq => (Go.Proofs.Ytbeonigmcbipeaa.Row.lt h.1 q hq).2
  have hap : ∀ i (hi : i < zs.length), i ≠ j → zs[i].sv.ownBlock = none ∨ zs[i].sv.ownBlock ≠ zs[j].sv.ownBlock := by
    intro i hi hne
    rcases Nat.lt_or_ge i j with hij | hij
    · exact List.pairwise_iff_getElem.1 h.2.2 i j hi hj hij
    · rcases List.pairwise_iff_getElem.1 h.2.2 j i hj hi (by omega) with h' | h'
      · rw [h']
        by_cases hn : zs[i].sv.ownBlock = none
        · exact .inl hn
        · exact .inr hn
      · exact .inr (fun e => h' e.symm)
  have hlt : ∀ i (hi : i < zs.length) q, zs[i].sv.ownBlock = some q → q < w.heap.size := fun i hi q hq => (Go.Proofs.Ytbeonigmcbipeaa.Row.lt (h.2.1 zs[i] (List.getElem_mem hi)).1 q hq).2
  have hapn : ∀ i (hi : i < zs.length), i ≠ j → ∀ q, z'.sv.ownBlock = some q → zs[i].sv.ownBlock ≠ some q := fun i hi hne q hq e => by
    rcases hat q hq with h1 | h1
    · rcases hap i hi hne with h2 | h2
      · rw [h2] at e; cases e
      · exact h2 (e.trans h1.symm)
    · have := hlt i hi q e; omega
  have hzv : z'.sv.ownBlock = none ∨ z'.sv.ownBlock ≠ v.ownBlock := by
    cases hq : z'.sv.ownBlock with
    | none => exact .inl rfl
    | some q =>
      refine .inr (fun e => ?_)
      rcases hat q hq with h1 | h1
      · rcases hz.2 with h2 | h2
        · rw [h2] at h1; cases h1
        · exact h2 (h1.trans e)
      · have := hvlt q e.symm; omega
  refine ⟨by rw [List.map_set]; exact hout, ?_, ?_⟩
  · intro z hzm
    obtain ⟨i, hi, rfl⟩ := List.getElem_of_mem hzm
    have hi' : i < zs.length := by simpa using hi
    by_cases e : j = i
    · subst e
      rw [List.getElem_set_self]
      exact ⟨Go.Proofs.Ytbeonigmcbipeaa.Row.kept hrow hg2 hzv, hzv⟩
    · rw [List.getElem_set_ne e]
      have h1 := h.2.1 zs[i] (List.getElem_mem hi')
      exact ⟨Go.Proofs.Ytbeonigmcbipeaa.Row.kept (Go.Proofs.Ytbeonigmcbipeaa.Row.kept h1.1 hg (hap i hi' (fun h => e h.symm))) hg2 h1.2, h1.2⟩
  · rw [List.pairwise_iff_getElem]
    intro i k hi hk hik
    have hi' : i < zs.length := by simpa using hi
    have hk' : k < zs.length := by simpa using hk
    unfold Pas.Ap
    by_cases e : j = i
    · subst e
      rw [List.getElem_set_self, List.getElem_set_ne (by omega)]
      cases hq : z'.sv.ownBlock with
      | none => exact .inl rfl
      | some q => exact .inr (fun e => hapn k hk' (by omega) q hq e.symm)
    · rw [List.getElem_set_ne e]
      by_cases e2 : j = k
      · subst e2
        rw [List.getElem_set_self]
        cases hq : zs[i].sv.ownBlock with
        | none => exact .inl rfl
        | some q => exact .inr (fun e3 => hapn i hi' (by omega) q e3.symm hq)
      · rw [List.getElem_set_ne e2]
        exact List.pairwise_iff_getElem.1 h.2.2 i k hi' hk' hik
end Go.Proofs.Ytbeonigmcbipeaa
