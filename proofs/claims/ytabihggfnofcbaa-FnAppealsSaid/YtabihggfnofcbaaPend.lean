/- The walks of the pending protests. No condition. -/
import Derived.Test.YtabihggfnofcbaaAreProtests
import Derived.Test.YtabihggfnofcbaaIntS
namespace Go.Proofs.Ytabihggfnofcbaa
open Go Go.RowKit

theorem Src.one_at (w : World) (e : TypeId) (cs : List Value) (g : Nat) (hg : w.heap.size = g) (h1 : ∀ u ∈ cs, u.oneCell' = true) : Src (w.alloc (.cells cs.toArray e)) cs.length (some ⟨g, 0, none⟩) 1 [cs] := by
  subst hg
  exact Src.one w e cs h1

def isPend (p : Prot) : Bool := p.state != 2 && p.state != 3
def pend (ps : List Prot) : List Int := (ps.filter isPend).map Prot.id
theorem pend_take (ps : List Prot) (k : Nat) (h : k < ps.length) : pend (ps.take (k + 1)) = pend (ps.take k) ++ if isPend ps[k] then [ps[k].id] else [] := by
  rw [List.take_succ_eq_append_getElem h]
  unfold pend
  rw [List.filter_append, List.map_append]
  by_cases hp : isPend ps[k] <;> simp [hp]
theorem pend_len (ps : List Prot) : (pend ps).length ≤ ps.length := by
  unfold pend
  rw [List.length_map]
  exact List.length_filter_le _ _

set_option maxHeartbeats 1000000 in
theorem l22Pending_any (ps : List Prot) (v : Value) (w : World) (h : Sl (Flat Prot.lst) 6 w v ps) (hn : ps.length ≤ 1048577) :
    Calls Try.prog 67 #[v] w fun e w' => ∃ v', e = .returned v' ∧ Row w.heap.size 3 1 w' v' ((pend ps).map ints) ∧ Below w.heap.size w w' := by
  obtain ⟨A, c, rfl, hc, hm, hk⟩ := h.open_
  go_enter Try.func67, Try.ntmps67
  go_wp2
  go_loopw [3, 4] (fun o i wr => ∃ k : Nat, k ≤ ps.length ∧ i = .int .i64 k ∧ Row w.heap.size 3 1 wr o ((pend (ps.take k)).map ints) ∧ Below w.heap.size w wr)
    (fun _ i _ => ps.length - (intOf i).toNat)
  case atStart => exact ⟨0, Nat.zero_le _, rfl, Row.lit_nil w _ _ (Nat.le_refl _), by (repeat (first | exact Below.refl _ _ | assumption | refine Below.drew ?_ | refine Below.alloc ?_ (by first | exact Nat.le_refl _ | (simp; done) | (simp; omega)) _))⟩
  case round =>
    obtain ⟨k, hkl, rfl, hrow, hb⟩ := hrel
    by_cases hlt : k < ps.length
    · obtain ⟨b, off, rfl, hat⟩ := flat_at hk (by omega)
      have hcs := Prot.cells (rangeAt_below (hat k hlt) hb)
      have HT := Lib.hid (pend_take ps k hlt)
      have hl1 := pend_len (ps.take k)
      have hl2 : (ps.take k).length ≤ k := List.length_take_le _ _
      have HL := Lib.hid (show ((pend (ps.take k)).map ints).length + 1 ≤ 2147483648 by simp; omega)
      clear hat hk h hl1 hl2
      by_cases h2 : ps[k].state = 2
      · have h2' : (ps[k].state != 2) = false := by simpa using h2
        have hp : isPend ps[k] = false := by simp [isPend, h2]
        have HP := Lib.hid hp
        clear h2 hp
        go_wp2
        go_roundw
        case rel => exact ⟨k + 1, by omega, by go_num, by rw [HT.out, HP.out]; simpa using hrow, hb⟩
        case measure => simp [intOf]; omega
      · have h2' : (ps[k].state != 2) = true := by simpa using h2
        by_cases h3 : ps[k].state = 3
        · have h3' : (ps[k].state != 3) = false := by simpa using h3
          have hp : isPend ps[k] = false := by simp [isPend, h3]
          have HP := Lib.hid hp
          clear h2 h3 hp
          go_wp2
          go_roundw
          case rel => exact ⟨k + 1, by omega, by go_num, by rw [HT.out, HP.out]; simpa using hrow, hb⟩
          case measure => simp [intOf]; omega
        · have h3' : (ps[k].state != 3) = true := by simpa using h3
          have hp : isPend ps[k] = true := by simp [isPend, h2, h3]
          have HP := Lib.hid hp
          clear h2 h3 hp
          go_wp2_with (at_builtin; refine tyInt.append rfl _ _ rfl w.heap.size _ _ rfl (hrow.alloc _) _ 1 1 [ints ps[k].id] rfl (Src.one _ _ (ints ps[k].id) (ints_one _)) HL.out (by simp; exact Nat.le_succ_of_le hb.size) ?_; intro o2 w2 hrow2 hg2 _)
          go_roundw
          case rel =>
            refine ⟨k + 1, by omega, by go_num, ?_, ((hb.alloc hb.size _).grown hg2 (by simp; exact Nat.le_succ_of_le hb.size) (fun q hq => (hrow.lt q hq).1))⟩
            rw [HT.out, HP.out, List.map_append]
            exact hrow2
          case measure => simp [intOf]; omega
    · go_wp2
      go_ret
      obtain rfl : k = ps.length := by omega
      rw [List.take_length] at hrow
      exact ⟨_, rfl, hrow, hb⟩
set_option maxHeartbeats 1000000 in
theorem pendingProtests_any (ps : List Prot) (v : Value) (w : World) (h : Sl (Flat Prot.lst) 6 w v ps) (hn : ps.length ≤ 1048577) :
    Calls Try.prog 69 #[v] w fun e w' => ∃ v', e = .returned v' ∧ Row w.heap.size 3 1 w' v' ((pend ps).map ints) ∧ Below w.heap.size w w' := by
  obtain ⟨A, c, rfl, hc, hm, hk⟩ := h.open_
  go_enter Try.func69, Try.ntmps69
  go_wp2
  go_loopw [3, 9] (fun o i wr => ∃ k : Nat, k ≤ ps.length ∧ i = .int .i64 k ∧ Row w.heap.size 3 1 wr o ((pend (ps.take k)).map ints) ∧ Below w.heap.size w wr)
    (fun _ i _ => ps.length - (intOf i).toNat)
  case atStart => exact ⟨0, Nat.zero_le _, rfl, Row.lit_nil w _ _ (Nat.le_refl _), by (repeat (first | exact Below.refl _ _ | assumption | refine Below.drew ?_ | refine Below.alloc ?_ (by first | exact Nat.le_refl _ | (simp; done) | (simp; omega)) _))⟩
  case round =>
    obtain ⟨k, hkl, rfl, hrow, hb⟩ := hrel
    by_cases hlt : k < ps.length
    · obtain ⟨b, off, rfl, hat⟩ := flat_at hk (by omega)
      have hr := rangeAt_below (hat k hlt) hb
      have hcs := Prot.cells (Prot.rangeNew wr ps[k] 25)
      simp only [Nat.zero_add] at hcs
      have HT := Lib.hid (pend_take ps k hlt)
      have hl1 := pend_len (ps.take k)
      have hl2 : (ps.take k).length ≤ k := List.length_take_le _ _
      have HL := Lib.hid (show ((pend (ps.take k)).map ints).length + 1 ≤ 2147483648 by simp; omega)
      clear hat hk h hl1 hl2
      by_cases h2 : ps[k].state = 2
      · have h2' : (ps[k].state != 2) = false := by simpa using h2
        have hp : isPend ps[k] = false := by simp [isPend, h2]
        have HP := Lib.hid hp
        clear h2 hp
        go_wp2_with (refine Prot.loadImpl rfl _ rfl b (off + k * 6) rfl ps[k] hr ?_)
        go_roundw
        case rel => exact ⟨k + 1, by omega, by go_num, by rw [HT.out, HP.out]; simpa using hrow.alloc _, hb.alloc hb.size _⟩
        case measure => simp [intOf]; omega
      · have h2' : (ps[k].state != 2) = true := by simpa using h2
        by_cases h3 : ps[k].state = 3
        · have h3' : (ps[k].state != 3) = false := by simpa using h3
          have hp : isPend ps[k] = false := by simp [isPend, h3]
          have HP := Lib.hid hp
          clear h2 h3 hp
          go_wp2_with (refine Prot.loadImpl rfl _ rfl b (off + k * 6) rfl ps[k] hr ?_)
          go_roundw
          case rel => exact ⟨k + 1, by omega, by go_num, by rw [HT.out, HP.out]; simpa using hrow.alloc _, hb.alloc hb.size _⟩
          case measure => simp [intOf]; omega
        · have h3' : (ps[k].state != 3) = true := by simpa using h3
          have hp : isPend ps[k] = true := by simp [isPend, h2, h3]
          have HP := Lib.hid hp
          clear h2 h3 hp
          go_wp2_with (first
            | (refine Prot.loadImpl rfl _ rfl b (off + k * 6) rfl ps[k] hr ?_)
            | (at_builtin; refine tyInt.append rfl _ _ rfl w.heap.size _ _ rfl ((hrow.alloc _).alloc _) _ 1 1 [ints ps[k].id] rfl (Src.one_at _ _ (ints ps[k].id) _ (by simp) (ints_one _)) HL.out (by simp; exact Nat.le_succ_of_le (Nat.le_succ_of_le hb.size)) ?_; intro o2 w2 hrow2 hg2 _))
          go_roundw
          case rel =>
            refine ⟨k + 1, by omega, by go_num, ?_, (((hb.alloc hb.size _).alloc (by simp; exact Nat.le_succ_of_le hb.size) _).grown hg2 (by simp; exact Nat.le_succ_of_le (Nat.le_succ_of_le hb.size)) (fun q hq => (hrow.lt q hq).1))⟩
            rw [HT.out, HP.out, List.map_append]
            exact hrow2
          case measure => simp [intOf]; omega
    · go_wp2
      go_ret
      obtain rfl : k = ps.length := by omega
      rw [List.take_length] at hrow
      exact ⟨_, rfl, hrow, hb⟩
end Go.Proofs.Ytabihggfnofcbaa
