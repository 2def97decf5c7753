/- The walks of slices.IndexFunc and slices.ContainsFunc on protests, for a closure that captures one variable and whose contract is known. No condition. -/
import Derived.Test.YtabihggfnofcbaaPend
namespace Go.Proofs.Ytabihggfnofcbaa
open Go Go.RowKit

def idxF (pr : Prot → Bool) (ps : List Prot) : Int := match ps.findIdx? pr with | some k => k | none => -1
theorem idxF_found {pr : Prot → Bool} {ps : List Prot} {k : Nat} (hk : k < ps.length) (h : pr ps[k] = true) (hb : ∀ j (h : j < ps.length), j < k → pr ps[j] = false) : idxF pr ps = k := by
  have : ps.findIdx? pr = some k := by
    rw [List.findIdx?_eq_some_iff_getElem]
    exact ⟨hk, h, fun j hj => by rw [hb j (by omega) hj]; simp⟩
  simp [idxF, this]
theorem idxF_none {pr : Prot → Bool} {ps : List Prot} (hb : ∀ j (h : j < ps.length), pr ps[j] = false) : idxF pr ps = -1 := by
  have : ps.findIdx? pr = none := by
    rw [List.findIdx?_eq_none_iff]
    intro x hx
    obtain ⟨j, hj, rfl⟩ := List.getElem_of_mem hx
    exact hb j hj
  simp [idxF, this]
theorem idxF_any (pr : Prot → Bool) (ps : List Prot) : decide (0 ≤ idxF pr ps) = ps.any pr := by
  by_cases h : ∃ j, ∃ h : j < ps.length, pr ps[j] = true
  · have h1 : ps.any pr = true := by
      obtain ⟨j, hj, h⟩ := h
      exact List.any_eq_true.2 ⟨_, List.getElem_mem hj, h⟩
    unfold idxF
    cases h2 : ps.findIdx? pr with
    | none =>
      rw [List.findIdx?_eq_none_iff] at h2
      obtain ⟨j, hj, h⟩ := h
      rw [h2 _ (List.getElem_mem hj)] at h
      cases h
    | some k => rw [h1]; simp
  · have h1 : ∀ j (hj : j < ps.length), pr ps[j] = false := fun j hj => by
      cases h2 : pr ps[j] with
      | false => rfl
      | true => exact absurd ⟨j, hj, h2⟩ h
    rw [idxF_none h1]
    have : ps.any pr = false := by
      rw [List.any_eq_false]
      intro x hx
      obtain ⟨j, hj, rfl⟩ := List.getElem_of_mem hx
      rw [h1 j hj]; simp
    rw [this]; rfl

set_option maxHeartbeats 1000000 in
theorem indexFunc_71 (cap : Value) (pr : Prot → Bool) (ps : List Prot) (v : Value) (w : World) (h : Sl (Flat Prot.lst) 6 w v ps)
    (hf : ∀ s : After w, ∀ k (hk : k < ps.length), Calls Try.prog 71 #[ps[k].val, cap] s.w' fun e w' => e = .returned (.bool (pr ps[k])) ∧ Below s.w'.heap.size s.w' w') :
    Calls Try.prog 77 #[v, .func (.func 71) #[] #[cap]] w fun e w' => e = .returned (.int .i64 (idxF pr ps)) ∧ Below w.heap.size w w' := by
  obtain ⟨A, c, rfl, hc, hm, hk⟩ := h.open_
  have HF := Lib.hid hf
  clear hf
  go_enter Try.func77, Try.ntmps77
  go_wp2
  go_loopw [8] (fun i wr => ∃ k : Nat, k ≤ ps.length ∧ i = .int .i64 k ∧ Hid (∀ j (h : j < ps.length), j < k → pr ps[j] = false) ∧ Below w.heap.size w wr)
    (fun i _ => ps.length - (intOf i).toNat)
  case atStart => exact ⟨0, Nat.zero_le _, rfl, fun j h hj => absurd hj (by omega), Below.refl _ _⟩
  case round =>
    obtain ⟨k, hkl, rfl, HS, hb⟩ := hrel
    by_cases hlt : k < ps.length
    · obtain ⟨b, off, rfl, hat⟩ := flat_at hk (by omega)
      have hr := rangeAt_below (hat k hlt) hb
      clear hat hk h
      go_wp2_with ((with_reducible refine at_load_ 25 ?_); refine stProtImpl.load rfl _ rfl b (off + k * 6) rfl ps[k].lst rfl hr ?_)
      refine (HF.out ⟨wr, hb⟩ k hlt).mono ?_
      rintro e w2 ⟨rfl, hb2⟩
      have hB := step_ hb (Nat.le_refl _) hb2
      by_cases hp : pr ps[k] = true
      · have HP := Lib.hid hp
        rw [hp]
        clear hp
        go_wp2
        go_ret
        exact ⟨ret_int (idxF_found hlt HP.out HS.out).symm, hB⟩
      · have hp' : pr ps[k] = false := by simpa using hp
        have HP := Lib.hid hp'
        rw [hp']
        clear hp hp'
        go_wp2
        go_roundw
        case rel => exact ⟨k + 1, by omega, by go_num, fun j hj hjk => by
          by_cases e : j < k
          · exact HS.out j hj e
          · obtain rfl : j = k := by omega
            exact HP.out, hB⟩
        case measure => simp [intOf]; omega
    · go_wp2
      go_ret
      obtain rfl : k = ps.length := by omega
      exact ⟨ret_int (idxF_none fun j hj => HS.out j hj hj).symm, hb⟩

theorem containsFunc_71 (cap : Value) (pr : Prot → Bool) (ps : List Prot) (v : Value) (w : World) (h : Sl (Flat Prot.lst) 6 w v ps)
    (hf : ∀ s : After w, ∀ k (hk : k < ps.length), Calls Try.prog 71 #[ps[k].val, cap] s.w' fun e w' => e = .returned (.bool (pr ps[k])) ∧ Below s.w'.heap.size s.w' w') :
    Calls Try.prog 70 #[v, .func (.func 71) #[] #[cap]] w fun e w' => e = .returned (.bool (ps.any pr)) ∧ Below w.heap.size w w' := by
  rw [← idxF_any]
  have HF := Lib.hid hf
  clear hf
  go_enter Try.func70, Try.ntmps70
  go_wp2_with (go_at_call 77; refine (indexFunc_71 cap pr ps v _ h HF.out).mono ?_; rintro e w1 ⟨rfl, hb1⟩)
  go_ret
  exact ⟨rfl, hb1⟩
set_option maxHeartbeats 1000000 in
theorem indexFunc_93 (cap : Value) (pr : Prot → Bool) (ps : List Prot) (v : Value) (w : World) (h : Sl (Flat Prot.lst) 6 w v ps)
    (hf : ∀ s : After w, ∀ k (hk : k < ps.length), Calls Try.prog 93 #[ps[k].val, cap] s.w' fun e w' => e = .returned (.bool (pr ps[k])) ∧ Below s.w'.heap.size s.w' w') :
    Calls Try.prog 77 #[v, .func (.func 93) #[] #[cap]] w fun e w' => e = .returned (.int .i64 (idxF pr ps)) ∧ Below w.heap.size w w' := by
  obtain ⟨A, c, rfl, hc, hm, hk⟩ := h.open_
  have HF := Lib.hid hf
  clear hf
  go_enter Try.func77, Try.ntmps77
  go_wp2
  go_loopw [8] (fun i wr => ∃ k : Nat, k ≤ ps.length ∧ i = .int .i64 k ∧ Hid (∀ j (h : j < ps.length), j < k → pr ps[j] = false) ∧ Below w.heap.size w wr)
    (fun i _ => ps.length - (intOf i).toNat)
  case atStart => exact ⟨0, Nat.zero_le _, rfl, fun j h hj => absurd hj (by omega), Below.refl _ _⟩
  case round =>
    obtain ⟨k, hkl, rfl, HS, hb⟩ := hrel
    by_cases hlt : k < ps.length
    · obtain ⟨b, off, rfl, hat⟩ := flat_at hk (by omega)
      have hr := rangeAt_below (hat k hlt) hb
      clear hat hk h
      go_wp2_with ((with_reducible refine at_load_ 25 ?_); refine stProtImpl.load rfl _ rfl b (off + k * 6) rfl ps[k].lst rfl hr ?_)
      refine (HF.out ⟨wr, hb⟩ k hlt).mono ?_
      rintro e w2 ⟨rfl, hb2⟩
      have hB := step_ hb (Nat.le_refl _) hb2
      by_cases hp : pr ps[k] = true
      · have HP := Lib.hid hp
        rw [hp]
        clear hp
        go_wp2
        go_ret
        exact ⟨ret_int (idxF_found hlt HP.out HS.out).symm, hB⟩
      · have hp' : pr ps[k] = false := by simpa using hp
        have HP := Lib.hid hp'
        rw [hp']
        clear hp hp'
        go_wp2
        go_roundw
        case rel => exact ⟨k + 1, by omega, by go_num, fun j hj hjk => by
          by_cases e : j < k
          · exact HS.out j hj e
          · obtain rfl : j = k := by omega
            exact HP.out, hB⟩
        case measure => simp [intOf]; omega
    · go_wp2
      go_ret
      obtain rfl : k = ps.length := by omega
      exact ⟨ret_int (idxF_none fun j hj => HS.out j hj hj).symm, hb⟩

theorem containsFunc_93 (cap : Value) (pr : Prot → Bool) (ps : List Prot) (v : Value) (w : World) (h : Sl (Flat Prot.lst) 6 w v ps)
    (hf : ∀ s : After w, ∀ k (hk : k < ps.length), Calls Try.prog 93 #[ps[k].val, cap] s.w' fun e w' => e = .returned (.bool (pr ps[k])) ∧ Below s.w'.heap.size s.w' w') :
    Calls Try.prog 70 #[v, .func (.func 93) #[] #[cap]] w fun e w' => e = .returned (.bool (ps.any pr)) ∧ Below w.heap.size w w' := by
  rw [← idxF_any]
  have HF := Lib.hid hf
  clear hf
  go_enter Try.func70, Try.ntmps70
  go_wp2_with (go_at_call 77; refine (indexFunc_93 cap pr ps v _ h HF.out).mono ?_; rintro e w1 ⟨rfl, hb1⟩)
  go_ret
  exact ⟨rfl, hb1⟩
set_option maxHeartbeats 1000000 in
theorem indexFunc_78 (cap : Value) (pr : Prot → Bool) (ps : List Prot) (v : Value) (w : World) (h : Sl (Flat Prot.lst) 6 w v ps)
    (hf : ∀ s : After w, ∀ k (hk : k < ps.length), Calls Try.prog 78 #[ps[k].val, cap] s.w' fun e w' => e = .returned (.bool (pr ps[k])) ∧ Below s.w'.heap.size s.w' w') :
    Calls Try.prog 77 #[v, .func (.func 78) #[] #[cap]] w fun e w' => e = .returned (.int .i64 (idxF pr ps)) ∧ Below w.heap.size w w' := by
  obtain ⟨A, c, rfl, hc, hm, hk⟩ := h.open_
  have HF := Lib.hid hf
  clear hf
  go_enter Try.func77, Try.ntmps77
  go_wp2
  go_loopw [8] (fun i wr => ∃ k : Nat, k ≤ ps.length ∧ i = .int .i64 k ∧ Hid (∀ j (h : j < ps.length), j < k → pr ps[j] = false) ∧ Below w.heap.size w wr)
    (fun i _ => ps.length - (intOf i).toNat)
  case atStart => exact ⟨0, Nat.zero_le _, rfl, fun j h hj => absurd hj (by omega), Below.refl _ _⟩
  case round =>
    obtain ⟨k, hkl, rfl, HS, hb⟩ := hrel
    by_cases hlt : k < ps.length
    · obtain ⟨b, off, rfl, hat⟩ := flat_at hk (by omega)
      have hr := rangeAt_below (hat k hlt) hb
      clear hat hk h
      go_wp2_with ((with_reducible refine at_load_ 25 ?_); refine stProtImpl.load rfl _ rfl b (off + k * 6) rfl ps[k].lst rfl hr ?_)
      refine (HF.out ⟨wr, hb⟩ k hlt).mono ?_
      rintro e w2 ⟨rfl, hb2⟩
      have hB := step_ hb (Nat.le_refl _) hb2
      by_cases hp : pr ps[k] = true
      · have HP := Lib.hid hp
        rw [hp]
        clear hp
        go_wp2
        go_ret
        exact ⟨ret_int (idxF_found hlt HP.out HS.out).symm, hB⟩
      · have hp' : pr ps[k] = false := by simpa using hp
        have HP := Lib.hid hp'
        rw [hp']
        clear hp hp'
        go_wp2
        go_roundw
        case rel => exact ⟨k + 1, by omega, by go_num, fun j hj hjk => by
          by_cases e : j < k
          · exact HS.out j hj e
          · obtain rfl : j = k := by omega
            exact HP.out, hB⟩
        case measure => simp [intOf]; omega
    · go_wp2
      go_ret
      obtain rfl : k = ps.length := by omega
      exact ⟨ret_int (idxF_none fun j hj => HS.out j hj hj).symm, hb⟩

theorem containsFunc_78 (cap : Value) (pr : Prot → Bool) (ps : List Prot) (v : Value) (w : World) (h : Sl (Flat Prot.lst) 6 w v ps)
    (hf : ∀ s : After w, ∀ k (hk : k < ps.length), Calls Try.prog 78 #[ps[k].val, cap] s.w' fun e w' => e = .returned (.bool (pr ps[k])) ∧ Below s.w'.heap.size s.w' w') :
    Calls Try.prog 70 #[v, .func (.func 78) #[] #[cap]] w fun e w' => e = .returned (.bool (ps.any pr)) ∧ Below w.heap.size w w' := by
  rw [← idxF_any]
  have HF := Lib.hid hf
  clear hf
  go_enter Try.func70, Try.ntmps70
  go_wp2_with (go_at_call 77; refine (indexFunc_78 cap pr ps v _ h HF.out).mono ?_; rintro e w1 ⟨rfl, hb1⟩)
  go_ret
  exact ⟨rfl, hb1⟩
end Go.Proofs.Ytabihggfnofcbaa
