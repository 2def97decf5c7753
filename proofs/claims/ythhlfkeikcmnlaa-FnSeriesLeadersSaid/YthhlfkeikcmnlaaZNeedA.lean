/- The test of NeededToLead on one runner. No condition. -/
import Derived.Test.YthhlfkeikcmnlaaZMostQStdQ
import Derived.Test.YthhlfkeikcmnlaaZStand
import Derived.Test.YthhlfkeikcmnlaaZIntSIntE
namespace Go.Proofs.Ythhlfkeikcmnlaa
open Go Go.RowKit

/-- Another stands before the runner, or level with him. -/
noncomputable def noLead (m : Int) (l : List Score) (r a : Int) : Bool := a != r && decide (0 ≤ cmpStand l m r a)

set_option maxHeartbeats 1000000 in
theorem indexFunc_75 (cap0 : Value) (cap1 : Value) (cap2 : Value) (pr : IntE → Bool) (ps : List IntE) (v : Value) (w : World) (h : Sl (Flat IntE.lst) 1 w v ps)
    (hf : ∀ s : After w, ∀ k (hk : k < ps.length), Calls Try.prog 75 #[ps[k].val, cap0, cap1, cap2] s.w' fun e w' => e = .returned (.bool (pr ps[k])) ∧ Below s.w'.heap.size s.w' w') :
    Calls Try.prog 99 #[v, .func (.func 75) #[] #[cap0, cap1, cap2]] w fun e w' => e = .returned (.int .i64 (idxA pr ps)) ∧ Below w.heap.size w w' := by
  obtain ⟨A, c, rfl, hc, hm, hk⟩ := h.open_
  have HF := Lib.hid hf
  clear hf
  go_enter Try.func99, Try.ntmps99
  go_wp2
  go_loopw [8] (fun i wr => ∃ k : Nat, k ≤ ps.length ∧ i = .int .i64 k ∧ Hid (∀ j (h : j < ps.length), j < k → pr ps[j] = false) ∧ Below w.heap.size w wr)
    (fun i _ => ps.length - (intOf i).toNat)
  case atStart => exact ⟨0, Nat.zero_le _, rfl, fun j h hj => absurd hj (by omega), Below.refl _ _⟩
  case round =>
    obtain ⟨k, hkl, rfl, HS, hb⟩ := hrel
    by_cases hlt : k < ps.length
    · obtain ⟨b, off, rfl, hat⟩ := flat_at hk (by omega)
      have hr := rangeAt_below (hat k hlt) hb
      have hr := int_at hr
      rw [Nat.mul_one] at hr
      clear hat hk h
      go_wp2_with fail
      refine (HF.out ⟨wr, hb⟩ k hlt).mono ?_
      rintro e w2 ⟨rfl, hb2⟩
      have hB := step_ hb (Nat.le_refl _) hb2
      by_cases hp : pr ps[k] = true
      · have HP := Lib.hid hp
        rw [hp]
        clear hp
        go_wp2
        go_ret
        exact ⟨ret_int (idxA_found hlt HP.out HS.out).symm, hB⟩
      · have hp' : pr ps[k] = false := by simpa using hp
        have HP := Lib.hid hp'
        rw [hp']
        clear hp hp'
        go_wp2
        go_roundw
        case rel => exact ⟨k + 1, by omega, by go_num, fun j hj hjk => by
          by_cases e : j < k
          · exact HS.out j hj e
          · obtain rfl : j = k := by omega
            exact HP.out, hB⟩
        case measure => simp [intOf]; omega
    · go_wp2
      go_ret
      obtain rfl : k = ps.length := by omega
      exact ⟨ret_int (idxA_none fun j hj => HS.out j hj hj).symm, hb⟩


theorem containsFunc_75 (cap0 : Value) (cap1 : Value) (cap2 : Value) (pr : IntE → Bool) (ps : List IntE) (v : Value) (w : World) (h : Sl (Flat IntE.lst) 1 w v ps)
    (hf : ∀ s : After w, ∀ k (hk : k < ps.length), Calls Try.prog 75 #[ps[k].val, cap0, cap1, cap2] s.w' fun e w' => e = .returned (.bool (pr ps[k])) ∧ Below s.w'.heap.size s.w' w') :
    Calls Try.prog 74 #[v, .func (.func 75) #[] #[cap0, cap1, cap2]] w fun e w' => e = .returned (.bool (ps.any pr)) ∧ Below w.heap.size w w' := by
  have HI := Lib.hid (idxA_any pr ps)
  obtain ⟨r, hr⟩ : ∃ r, idxA pr ps = r := ⟨_, rfl⟩
  have hc := indexFunc_75 cap0 cap1 cap2 pr ps v w h hf
  rw [hr] at hc HI
  clear hr
  go_enter Try.func74, Try.ntmps74
  go_wp2_with (go_at_call 99; refine hc.mono ?_; rintro e w1 ⟨rfl, hb1⟩)
  go_ret
  exact ⟨ret_bool HI.out, hb1⟩

set_option maxHeartbeats 1000000 in
theorem noLead_any (a r m : Int) (l : List Score) (A : Option Addr) (n c : Nat) (b0 b1 b2 : Nat) (w : World) (h0 : w.cell? ⟨b0, 0, none⟩ = some (.int .i64 r)) (h1 : w.cell? ⟨b1, 0, none⟩ = some (.slice A n c)) (h2 : w.cell? ⟨b2, 0, none⟩ = some (.int .i64 m))
    (hs : Sl (Flat Score.lst) 3 w (.slice A n c) l) (hn : l.length ≤ 1048577) (ha : (ownS l r).length ≤ 20) (hb : (ownS l a).length ≤ 20) (hm0 : 0 ≤ m) (hm1 : m ≤ 9223372036854775807) (hsm : Small l) :
    Calls Try.prog 75 #[.int .i64 a, .pointer (some ⟨b0, 0, none⟩), .pointer (some ⟨b1, 0, none⟩), .pointer (some ⟨b2, 0, none⟩)] w fun e w' => e = .returned (.bool (noLead m l r a)) ∧ Below w.heap.size w w' := by
  have HC := Lib.hid (compareStanding_any l m r a _ w hs hn ha hb hm0 hm1 hsm)
  by_cases har : a = r
  · have HV := Lib.hid (show noLead m l r a = false by simp [noLead, har])
    have hne : (a != r) = false := by simpa using har
    rw [HV.out]
    clear har HC hs
    go_enter Try.func75, Try.ntmps75
    go_wp2
    go_ret
    exact ⟨rfl, Below.refl _ _⟩
  · have hne : (a != r) = true := by simpa using har
    have HV := Lib.hid (show noLead m l r a = decide (0 ≤ cmpStand l m r a) by simp [noLead, har])
    obtain ⟨q, hq⟩ : ∃ q, q = cmpStand l m r a := ⟨_, rfl⟩
    rw [HV.out, ← hq]
    rw [← hq] at HC
    clear har hs hq
    go_enter Try.func75, Try.ntmps75
    go_wp2_with (go_at_call 71; refine HC.out.mono ?_; rintro e w1 ⟨rfl, hb1⟩)
    go_ret
    exact ⟨by first | rfl | exact ret_bool (by simp), hb1⟩
end Go.Proofs.Ythhlfkeikcmnlaa
