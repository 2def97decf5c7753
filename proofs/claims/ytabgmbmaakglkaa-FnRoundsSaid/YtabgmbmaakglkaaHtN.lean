/- Plain: what the functions on rounds answer. No condition. -/
import Derived.Test.YtabgmbmaakglkaaHtQ
import Derived.Test.YtabgmbmaakglkaaSl
namespace Go.Proofs.Ytabgmbmaakglkaa
open Go Go.RowKit

/-- Whether the arguments are valid. -/
noncomputable def askG (ks : List HK) (d l : Int) : Bool := goodR ks && inB d 1 3 && inB l 0 6
theorem askG_parts {ks : List HK} {d l : Int} (h : askG ks d l = true) : goodR ks = true ∧ (1 ≤ d ∧ d ≤ 3) ∧ 0 ≤ l ∧ l ≤ 6 := by
  simp only [askG, Bool.and_eq_true] at h
  exact ⟨h.1.1, inB_iff.1 h.1.2, inB_iff.1 h.2⟩

theorem rest_take {l : List Fns} {d : Int} {k : Nat} (h : k < l.length) : (l.take (k + 1)).filter (fun f => !decide (f.place < d)) = (l.take k).filter (fun f => !decide (f.place < d)) ++ (if l[k].place < d then [] else [l[k]]) := by
  rw [List.take_succ_eq_append_getElem h, List.filter_append]
  congr 1
  by_cases hd : l[k].place < d <;> simp [hd]
theorem first_take {l : List Fns} {d : Int} {k : Nat} (h : k < l.length) : (l.take (k + 1)).filter (fun f => decide (f.place < d)) = (l.take k).filter (fun f => decide (f.place < d)) ++ (if l[k].place < d then [l[k]] else []) := by
  rw [List.take_succ_eq_append_getElem h, List.filter_append]
  congr 1
  by_cases hd : l[k].place < d <;> simp [hd]
/-- What goingOn answers. -/
noncomputable def gF (ks : List HK) (d l : Int) : List Fns := if askG ks d l then firstN ks d else []
noncomputable def gL (ks : List HK) (d l : Int) : List Fns := if askG ks d l then luckyN ks d l else []
theorem gF_no {ks : List HK} {d l : Int} (h : askG ks d l = false) : gF ks d l = [] := by simp [gF, h]
theorem gL_no {ks : List HK} {d l : Int} (h : askG ks d l = false) : gL ks d l = [] := by simp [gL, h]
theorem gF_yes {ks : List HK} {d l : Int} (h : askG ks d l = true) : gF ks d l = firstN ks d := by simp [gF, h]
theorem gL_yes {ks : List HK} {d l : Int} (h : askG ks d l = true) : gL ks d l = luckyN ks d l := by simp [gL, h]
theorem gF_len (ks : List HK) (d l : Int) : (gF ks d l).length ≤ 24 := by
  cases h : askG ks d l with
  | false => simp [gF_no h]
  | true =>
    rw [gF_yes h]
    have h1 := List.length_filter_le (fun f : Fns => decide (f.place < d)) (allF ks)
    have h2 := goodR_len (goodR_iff.1 (askG_parts h).1)
    unfold firstN; omega
theorem gL_len (ks : List HK) (d l : Int) : (gL ks d l).length ≤ 6 := by
  cases h : askG ks d l with
  | false => simp [gL_no h]
  | true =>
    rw [gL_yes h]
    have h1 := (askG_parts h).2.2
    unfold luckyN
    rw [List.length_take]; omega
/-- What LuckyLimit answers. -/
noncomputable def limB (ks : List HK) (d l : Int) : Bool := decide (0 < (gL ks d l).length)
noncomputable def limV (ks : List HK) (d l : Int) : Int := match (gL ks d l).getLast? with | some f => f.time | none => 0
theorem lim_no {ks : List HK} {d l : Int} (h : gL ks d l = []) : limB ks d l = false ∧ limV ks d l = 0 := by simp [limB, limV, h]
theorem lim_yes {ks : List HK} {d l : Int} {n : Nat} (hn : (gL ks d l).length = n + 1) : limB ks d l = true ∧ ∀ h : n < (gL ks d l).length, limV ks d l = (gL ks d l)[n].time := by
  constructor
  · simp [limB, hn]
  · intro h
    unfold limV
    rw [List.getLast?_eq_getElem?, hn, Nat.add_sub_cancel, List.getElem?_eq_getElem h]
/-- What RoundRank answers. -/
noncomputable def rkF (ks : List HK) : List Fns := if goodR ks then putAll ltPTR (allF ks) else []
noncomputable def rkV (ks : List HK) : List Int := (rkF ks).map Fns.runner
theorem rkF_no {ks : List HK} (h : goodR ks = false) : rkF ks = [] := by simp [rkF, h]
theorem rkF_yes {ks : List HK} (h : goodR ks = true) : rkF ks = putAll ltPTR (allF ks) := by simp [rkF, h]
theorem rkF_len (ks : List HK) : (rkF ks).length ≤ 24 := by
  cases h : goodR ks with
  | false => simp [rkF_no h]
  | true => rw [rkF_yes h, putAll_len]; exact goodR_len (goodR_iff.1 h)
theorem rkV_len (ks : List HK) : (rkV ks).length ≤ 1048576 := by have := rkF_len ks; simp [rkV]; omega
noncomputable def goF (ks : List HK) (d l : Int) : List Int := (gF ks d l).map Fns.runner
noncomputable def goL (ks : List HK) (d l : Int) : List Int := (gL ks d l).map Fns.runner
theorem goF_len (ks : List HK) (d l : Int) : (goF ks d l).length ≤ 1048576 := by have := gF_len ks d l; simp [goF]; omega
theorem goL_len (ks : List HK) (d l : Int) : (goL ks d l).length ≤ 1048576 := by have := gL_len ks d l; simp [goL]; omega
/-- Two values whose blocks are not one. -/
def Dis (v1 v2 : Value) : Prop := ∀ q, v1.ownBlock = some q → v2.ownBlock ≠ some q
theorem Dis.symm {v1 v2 : Value} (h : Dis v1 v2) : Dis v2 v1 := fun q h2 h1 => h q h1 h2
theorem Dis.or {v1 v2 : Value} (h : Dis v1 v2) : v1.ownBlock = none ∨ v1.ownBlock ≠ v2.ownBlock := by
  cases h1 : v1.ownBlock with
  | none => exact .inl rfl
  | some q => exact .inr (fun e => h q h1 e.symm)
theorem Dis.grown {v1 v v' : Value} {n : Nat} (h : Dis v1 v) (hat : v'.ownBlock = v.ownBlock ∨ v'.ownBlock = some n) (hlt : ∀ q, v1.ownBlock = some q → q < n) : Dis v1 v' := fun q h1 h2 => by
  rcases hat with e | e
  · exact h q h1 (e ▸ h2)
  · have := hlt q h1
    rw [e] at h2
    simp only [Option.some.injEq] at h2
    omega
theorem Dis.nil (v : Value) : Dis (.slice none 0 0) v := fun q h => by simp [Value.ownBlock] at h
theorem Dis.new {v1 v2 : Value} {n : Nat} (h1 : ∀ q, v1.ownBlock = some q → q < n) (h2 : ∀ q, v2.ownBlock = some q → n ≤ q) : Dis v1 v2 := fun q e1 e2 => by have := h1 q e1; have := h2 q e2; omega
end Go.Proofs.Ytabgmbmaakglkaa
