/- What the four changes of a protest answer, plainly; and the finding of a protest. No condition. -/
import Derived.Test.YtabihggfnofcbaaMake
namespace Go.Proofs.Ytabihggfnofcbaa
open Go Go.RowKit

def hasId (id : Int) (p : Prot) : Bool := p.id == id
/-- The list in which the protest with an Id, if it is fit, is changed: none where that can't be. -/
noncomputable def withM (x : List Prot) (id : Int) (c : Prot → Bool) (f : Prot → Prot) : Option (List Prot) :=
  match x.findIdx? (hasId id) with
  | none => none
  | some k => match x[k]? with
    | none => none
    | some p => if good x && c p && good (x.set k (f p)) then some (x.set k (f p)) else none
noncomputable def wOut (x : List Prot) (id : Int) (c : Prot → Bool) (f : Prot → Prot) : List Prot := (withM x id c f).getD []
noncomputable def wOk (x : List Prot) (id : Int) (c : Prot → Bool) (f : Prot → Prot) : Bool := (withM x id c f).isSome
theorem find_found {pr : Prot → Bool} {x : List Prot} {k : Nat} (hk : k < x.length) (h : pr x[k] = true) (hb : ∀ j (h : j < x.length), j < k → pr x[j] = false) : x.findIdx? pr = some k := by
  rw [List.findIdx?_eq_some_iff_getElem]
  exact ⟨hk, h, fun j hj => by rw [hb j (by omega) hj]; simp⟩
theorem with_bad {x : List Prot} {id : Int} {c : Prot → Bool} {f : Prot → Prot} (h : good x = false) : wOut x id c f = [] ∧ wOk x id c f = false := by
  have : withM x id c f = none := by
    unfold withM
    cases x.findIdx? (hasId id) with
    | none => rfl
    | some k =>
      cases hk : x[k]? with
      | none => simp [hk]
      | some p => simp [hk, h]
  simp [wOut, wOk, this]
theorem with_none {x : List Prot} {id : Int} {c : Prot → Bool} {f : Prot → Prot} (h : x.findIdx? (hasId id) = none) : wOut x id c f = [] ∧ wOk x id c f = false := by
  have : withM x id c f = none := by unfold withM; rw [h]
  simp [wOut, wOk, this]
theorem with_unfit {x : List Prot} {id : Int} {c : Prot → Bool} {f : Prot → Prot} {k : Nat} (hk : k < x.length) (h : x.findIdx? (hasId id) = some k) (hc : c x[k] = false) : wOut x id c f = [] ∧ wOk x id c f = false := by
  have : withM x id c f = none := by
    unfold withM
    rw [h]
    simp [List.getElem?_eq_getElem hk, hc]
  simp [wOut, wOk, this]
theorem with_after {x : List Prot} {id : Int} {c : Prot → Bool} {f : Prot → Prot} {k : Nat} (hk : k < x.length) (h : x.findIdx? (hasId id) = some k) (hg : good (x.set k (f x[k])) = false) : wOut x id c f = [] ∧ wOk x id c f = false := by
  have : withM x id c f = none := by
    unfold withM
    rw [h]
    simp [List.getElem?_eq_getElem hk, hg]
  simp [wOut, wOk, this]
theorem with_fit {x : List Prot} {id : Int} {c : Prot → Bool} {f : Prot → Prot} {k : Nat} (hk : k < x.length) (h : x.findIdx? (hasId id) = some k) (h1 : good x = true) (hc : c x[k] = true) (hg : good (x.set k (f x[k])) = true) :
    wOut x id c f = x.set k (f x[k]) ∧ wOk x id c f = true := by
  have : withM x id c f = some (x.set k (f x[k])) := by
    unfold withM
    rw [h]
    simp [List.getElem?_eq_getElem hk, h1, hc, hg]
  simp [wOut, wOk, this]
theorem wOut_len (x : List Prot) (id : Int) (c : Prot → Bool) (f : Prot → Prot) : (wOut x id c f).length ≤ 10 := by
  unfold wOut withM
  cases x.findIdx? (hasId id) with
  | none => simp
  | some k =>
    cases hk : x[k]? with
    | none => simp [hk]
    | some p =>
      simp only [hk]
      split
      · rename_i h
        simp only [Bool.and_eq_true] at h
        exact (good_iff.1 h.2).2
      · simp
theorem set_map (x : List Prot) (k : Nat) (p : Prot) : (x.map Prot.lst).set k p.lst = (x.set k p).map Prot.lst := by rw [List.map_set]
/-- Where the search stops. -/
theorem find_cases (x : List Prot) (id : Int) : (x.findIdx? (hasId id) = none ∧ idxF (hasId id) x = -1) ∨ ∃ k, ∃ _ : k < x.length, x.findIdx? (hasId id) = some k ∧ idxF (hasId id) x = k := by
  unfold idxF
  cases h : x.findIdx? (hasId id) with
  | none => exact .inl ⟨rfl, rfl⟩
  | some k =>
    have := List.findIdx?_eq_some_iff_getElem.1 h
    exact .inr ⟨k, this.1, rfl, rfl⟩

def cHear (p : Prot) : Bool := p.state == 0 || p.state == 4
def fHear (p : Prot) : Prot := { p with state := 1, votes := 0 }
def cOpen (p : Prot) : Bool := p.state == 1
def fVote (pro : Bool) (p : Prot) : Prot := { p with state := 1, votes := if pro then p.votes + 1 else p.votes - 1 }
def fDecide (p : Prot) : Prot := { p with state := if 0 < p.votes then 2 else 3, votes := p.votes }
def cAppeal (t : Int) (p : Prot) : Bool := p.state == 3 && inB t 0 36000 && inB (t - p.made) 0 900
def fAppeal (p : Prot) : Prot := { p with state := 4, votes := 0 }

/-! ### The reference's search and change -/
set_option maxHeartbeats 1000000 in
theorem l22Find_any (x : List Prot) (v : Value) (id : Int) (w : World) (h : Sl (Flat Prot.lst) 6 w v x) :
    Calls Try.prog 73 #[v, .int .i64 id] w fun e w' => e = .returned (.int .i64 (idxF (hasId id) x)) ∧ w = w' := by
  obtain ⟨A, c, rfl, hc, hm, hk⟩ := h.open_
  go_enter Try.func73, Try.ntmps73
  go_wp2
  go_loop [5] (fun i => ∃ k : Nat, k ≤ x.length ∧ i = .int .i64 k ∧ Hid (∀ j (h : j < x.length), j < k → hasId id x[j] = false))
    (fun i => x.length - (intOf i).toNat)
  case atStart => exact ⟨0, Nat.zero_le _, rfl, fun j h hj => absurd hj (by omega)⟩
  case round =>
    obtain ⟨k, hkl, rfl, HS⟩ := hrel
    by_cases hlt : k < x.length
    · obtain ⟨b, off, rfl, hat⟩ := flat_at hk (by omega)
      have hcs := Prot.cells (hat k hlt)
      clear hat hk h
      by_cases hp : x[k].id = id
      · have hp' : (x[k].id == id) = true := by simpa using hp
        have HP := Lib.hid (show hasId id x[k] = true from hp')
        clear hp
        go_wp2
        go_ret
        exact ⟨ret_int (idxF_found hlt HP.out HS.out).symm, rfl⟩
      · have hp' : (x[k].id == id) = false := by simpa using hp
        have HP := Lib.hid (show hasId id x[k] = false from hp')
        clear hp
        go_wp2
        go_round
        case rel => exact ⟨k + 1, by omega, by go_num, fun j hj hjk => by
          by_cases e : j < k
          · exact HS.out j hj e
          · obtain rfl : j = k := by omega
            exact HP.out⟩
        case measure => simp [intOf]; omega
    · go_wp2
      go_ret
      obtain rfl : k = x.length := by omega
      exact ⟨ret_int (idxF_none fun j hj => HS.out j hj hj).symm, rfl⟩

set_option maxHeartbeats 2000000 in
theorem l22With_any (x : List Prot) (v : Value) (k : Nat) (st vt : Int) (w : World) (h : Sl (Flat Prot.lst) 6 w v x) (hk : k < x.length) (hn : x.length ≤ 1048576) :
    Calls Try.prog 74 #[v, .int .i64 k, .int .i64 st, .int .i64 vt] w fun e w' => ∃ r, e = .returned (.tuple #[r, .bool (good (x.set k { x[k] with state := st, votes := vt }))]) ∧
      Row w.heap.size 25 6 w' r ((if good (x.set k { x[k] with state := st, votes := vt }) = true then x.set k { x[k] with state := st, votes := vt } else []).map Prot.lst) ∧ Below w.heap.size w w' := by
  obtain ⟨b2, hb2⟩ : ∃ b, good (x.set k { x[k] with state := st, votes := vt }) = b := ⟨_, rfl⟩
  rw [hb2]
  have HB := Lib.hid hb2
  clear hb2
  have hn1 := Lib.hid (show ([] : List (List Value)).length + x.length ≤ 2147483648 by simp; omega)
  obtain ⟨A, c, rfl, hc, hm, hk0⟩ := h.open_
  clear hk0
  go_enter Try.func74, Try.ntmps74
  go_wp2_with (first
    | (at_builtin; refine tyProt.append rfl _ _ rfl w.heap.size (.slice (some ⟨w.heap.size, 0, none⟩) 0 0) [] rfl (Row.lit_nil w _ _ (Nat.le_refl _)) _ x.length _ (x.map Prot.lst) rfl (Src.of_sl (h.below (Flat.keeps _) (Below.alloc (Below.refl _ _) (Nat.le_refl _) _)) Prot.lst_len Prot.one) hn1.out (by simp) ?_; intro v2 w2 row2 hg2 hat2; have hB2 := (Below.alloc (Below.refl w.heap.size w) (Nat.le_refl _) _).grown hg2 (by simp) (fun q hq => by simp [Value.ownBlock] at hq; omega); rw [List.nil_append] at row2; obtain ⟨g, cap, rfl, hgb, hgl, hgc⟩ := row2.form (by simp; omega); simp only [List.length_map] at row2 hgc; have hr2 := row2.range (k := k) (by simpa using hk); rw [List.getElem_map] at hr2; have hkm : k < (x.map Prot.lst).length := (by simpa using hk))
    | ((with_reducible refine at_load_ 25 ?_); refine Prot.loadImpl rfl _ rfl g (k * 6) rfl x[k] hr2 ?_)
    | ((with_reducible refine at_load_ 25 ?_); refine Prot.loadImpl rfl _ rfl _ 0 rfl ⟨x[k].id, x[k].against, x[k].by_, x[k].made, st, vt⟩ (Prot.rangeNew w2 ⟨x[k].id, x[k].against, x[k].by_, x[k].made, st, vt⟩ _) ?_)
    | (refine tyProt.store rfl _ _ rfl w.heap.size g _ cap k _ _ (Prot.lst ⟨x[k].id, x[k].against, x[k].by_, x[k].made, st, vt⟩) (row2.alloc _) hkm rfl rfl rfl rfl (Prot.one _) ?_; intro w3 row3 hg3; rw [set_map] at row3; have hB3 := (hB2.alloc hB2.size _).grown hg3 (by have h := hB2.size; simp at h ⊢; omega) (fun q hq => by simp at hq; omega)))
  refine (l22Good_any _ _ _ (Sl.of_flat row3)).mono ?_
  rintro e w4 ⟨rfl, hb4⟩
  have hB4 := step_ hB3 (Nat.le_refl _) hb4
  rw [HB.out]
  cases b2 with
  | true =>
    go_wp2
    go_ret2
    rw [← set_map] at row3
    exact ⟨_, rfl, row3.below hb4, hB4⟩
  | false =>
    go_wp2
    go_ret2
    exact ⟨_, rfl, Row.lit_nil w4 _ _ hB4.size, hB4.alloc hB4.size _⟩
end Go.Proofs.Ytabihggfnofcbaa
