/- Plain: where codes are found on a card, which are missing, what status a run has. No condition. -/
import Derived.Test.YtojpklpfnmjikaaRnA
import Derived.Test.YtojpklpfnmjikaaIdxA
namespace Go.Proofs.Ytojpklpfnmjikaa

def codeIs (c : Int) (p : Punch) : Bool := p.code == c
/-- The punch at which a code is found, from a place on: its place, or -1. -/
def nxtI (ps : List Punch) (next : Nat) (c : Int) : Int := if idxA (codeIs c) (ps.drop next) < 0 then -1 else idxA (codeIs c) (ps.drop next) + next
def fstep (ps : List Punch) (st : List Int × Nat) (c : Int) : List Int × Nat := (st.1 ++ [nxtI ps st.2 c], if nxtI ps st.2 c < 0 then st.2 else (nxtI ps st.2 c + 1).toNat)
def foundS (ps : List Punch) (cs : List Int) : List Int × Nat := cs.foldl (fstep ps) ([], 0)
def foundL (ps : List Punch) (cs : List Int) : List Int := (foundS ps cs).1
theorem nxt_range (ps : List Punch) (next : Nat) (c : Int) : nxtI ps next c = -1 ∨ ∃ i, i < ps.length ∧ next ≤ i ∧ nxtI ps next c = (i : Int) := by
  unfold nxtI
  rcases idxA_cases (codeIs c) (ps.drop next) with ⟨h, _⟩ | ⟨k, hk, h, _⟩
  · left; rw [h]; rfl
  · right
    rw [h]
    rw [List.length_drop] at hk
    exact ⟨k + next, by omega, by omega, by rw [if_neg (by omega)]; omega⟩
theorem found_step (ps : List Punch) (cs : List Int) (k : Nat) (h : k < cs.length) : foundS ps (cs.take (k + 1)) = fstep ps (foundS ps (cs.take k)) cs[k] := by
  unfold foundS
  rw [List.take_succ_eq_append_getElem h, List.foldl_append]
  rfl
theorem found_inv (ps : List Punch) (cs : List Int) : ∀ k, k ≤ cs.length → (foundS ps (cs.take k)).1.length = k ∧ (foundS ps (cs.take k)).2 ≤ ps.length ∧ ∀ x ∈ (foundS ps (cs.take k)).1, x = -1 ∨ ∃ i, i < ps.length ∧ x = (i : Int)
  | 0, _ => by simp [foundS]
  | k + 1, h => by
    obtain ⟨h1, h2, h3⟩ := found_inv ps cs k (by omega)
    rw [found_step ps cs k (by omega)]
    have hr := nxt_range ps (foundS ps (cs.take k)).2 cs[k]
    unfold fstep
    refine ⟨by simp [h1], ?_, fun x hx => ?_⟩
    · simp only
      rcases hr with hr | ⟨i, hi, _, hr⟩ <;> rw [hr]
      · simpa using h2
      · rw [if_neg (by omega)]; omega
    · rcases List.mem_append.1 hx with hx | hx
      · exact h3 x hx
      · rw [List.mem_singleton.1 hx]
        rcases hr with hr | ⟨i, hi, _, hr⟩
        · exact .inl hr
        · exact .inr ⟨i, hi, hr⟩
theorem found_len (ps : List Punch) (cs : List Int) : (foundL ps cs).length = cs.length := by
  have := (found_inv ps cs cs.length (Nat.le_refl _)).1
  rwa [List.take_length] at this
theorem found_mem {ps : List Punch} {cs : List Int} : ∀ x ∈ foundL ps cs, x = -1 ∨ ∃ i, i < ps.length ∧ x = (i : Int) := by
  have := (found_inv ps cs cs.length (Nat.le_refl _)).2.2
  rwa [List.take_length] at this
theorem nxt_none {ps : List Punch} {nx : Nat} {c : Int} (h : ∀ j (h : j < ps.length), nx ≤ j → codeIs c ps[j] = false) : nxtI ps nx c = -1 := by
  unfold nxtI
  rw [idxA_none (fun j hj => by rw [List.getElem_drop]; exact h _ _ (by omega))]
  rfl
theorem nxt_found {ps : List Punch} {nx i : Nat} {c : Int} (hi : i < ps.length) (hn : nx ≤ i) (h : codeIs c ps[i] = true) (hb : ∀ j (h : j < ps.length), nx ≤ j → j < i → codeIs c ps[j] = false) : nxtI ps nx c = i := by
  unfold nxtI
  have e : idxA (codeIs c) (ps.drop nx) = ((i - nx : Nat) : Int) := by
    refine idxA_found (by rw [List.length_drop]; omega) ?_ (fun j hj hji => ?_)
    · rw [List.getElem_drop]
      have e2 : nx + (i - nx) = i := by omega
      simp only [e2]
      exact h
    · rw [List.getElem_drop]
      exact hb _ _ (by omega) (by omega)
  rw [e, if_neg (by omega)]
  omega
/-- Within the search for a code. -/
def InP (ps : List Punch) (nx : Nat) (c : Int) (q : Nat) (a f : Int) : Prop :=
  (a = -1 ∧ f = (nx : Int) ∧ nx ≤ q ∧ q ≤ ps.length ∧ ∀ j (h : j < ps.length), nx ≤ j → j < q → codeIs c ps[j] = false) ∨ (∃ i : Nat, i < ps.length ∧ a = (i : Int) ∧ f = (i : Int) + 1 ∧ q = i + 1 ∧ nxtI ps nx c = (i : Int))
/-- The missing codes. -/
def missL (ps : List Punch) (cs : List Int) : List Int := ((cs.zip (foundL ps cs)).filter fun x => decide (x.2 < 0)).map Prod.fst
def missN (cs fs : List Int) : List Int := ((cs.zip fs).filter fun x => decide (x.2 < 0)).map Prod.fst
theorem miss_step (cs fs : List Int) (k : Nat) (h : k < cs.length) (h' : k < fs.length) : missN (cs.take (k + 1)) (fs.take (k + 1)) = missN (cs.take k) (fs.take k) ++ if fs[k] < 0 then [cs[k]] else [] := by
  unfold missN
  rw [List.take_succ_eq_append_getElem h, List.take_succ_eq_append_getElem h', List.zip_append (by simp; omega), List.filter_append, List.map_append]
  by_cases e : fs[k] < 0 <;> simp [e]
theorem miss_len (cs fs : List Int) : (missN cs fs).length ≤ cs.length := by
  unfold missN
  rw [List.length_map]
  have := List.length_filter_le (fun x => decide (x.2 < 0)) (cs.zip fs)
  rw [List.length_zip] at this
  omega
def codesOk (cs : List Int) : Bool := decide (cs.length ≤ 12) && !(cs.any fun c => !inB c 31 99)
/-- The status of a run. -/
def stV (k : RunK) (cs : List Int) (limit : Int) : Int :=
  if k.started = false then 5 else if k.out = true then 4 else if k.card.finish = -1 then 2 else if 0 < (missL k.card.punches cs).length then 1 else if limit < k.card.finish - k.card.start then 3 else 0
theorem stV_range (k : RunK) (cs : List Int) (limit : Int) : 0 ≤ stV k cs limit ∧ stV k cs limit ≤ 5 := by
  unfold stV
  repeat (first | split | omega)
def rtime (k : RunK) : Int := k.card.finish - k.card.start
noncomputable def askR (ks : List RunK) (cs : List Int) (limit : Int) : Bool := goodRs ks && codesOk cs && inB limit 1 36000
def isRn (r : Int) (p : Run) : Bool := p.runner == r
end Go.Proofs.Ytojpklpfnmjikaa
