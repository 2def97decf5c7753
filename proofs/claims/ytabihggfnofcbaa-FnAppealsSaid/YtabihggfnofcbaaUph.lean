/- The walks of UpheldRunners. No condition. -/
import Derived.Test.YtabihggfnofcbaaAreProtests
import Derived.Test.YtabihggfnofcbaaPend
import Derived.Test.YtabihggfnofcbaaPut
import Derived.Test.YtabihggfnofcbaaCompact
import Derived.Test.YtabihggfnofcbaaSortJ
import Derived.Test.YtabihggfnofcbaaIntL
namespace Go.Proofs.Ytabihggfnofcbaa
open Go Go.RowKit

def isUp (p : Prot) : Bool := p.state == 2
def ups (ps : List Prot) : List Int := (ps.filter isUp).map Prot.against
theorem ups_take (ps : List Prot) (k : Nat) (h : k < ps.length) : ups (ps.take (k + 1)) = ups (ps.take k) ++ if isUp ps[k] then [ps[k].against] else [] := by
  rw [List.take_succ_eq_append_getElem h]
  unfold ups
  rw [List.filter_append, List.map_append]
  by_cases hp : isUp ps[k] <;> simp [hp]
theorem ups_len (ps : List Prot) : (ups ps).length ≤ ps.length := by
  unfold ups
  rw [List.length_map]
  exact List.length_filter_le _ _
noncomputable def upM (x : List Prot) : List Int := if good x = true then putUs (ups x) else []
theorem upM_true {x : List Prot} (h : good x = true) : upM x = putUs (ups x) := by simp [upM, h]
theorem upM_false {x : List Prot} (h : good x = false) : upM x = [] := by simp [upM, h]
theorem squeeze_ups (x : List Prot) : squeeze (putAll ltI (ups x)) = putUs (ups x) := squeeze_sorted (putAll_sorted _) (putAll_perm _ _)
theorem upM_len (x : List Prot) : (upM x).length ≤ 10 := by
  by_cases h : good x = true
  · rw [upM_true h, ← squeeze_ups]
    have h1 := squeeze_len (putAll ltI (ups x))
    have h2 : (putAll ltI (ups x)).length = (ups x).length := (putAll_perm _ _).length_eq
    have h3 := ups_len x
    have h4 := (good_iff.1 h).2
    omega
  · rw [upM_false (by simpa using h)]; simp
theorem putUs_push (ps : List Prot) (k : Nat) (h : k < ps.length) (hu : isUp ps[k] = true) : putUs (ups (ps.take (k + 1))) = putU (putUs (ups (ps.take k))) ps[k].against := by
  rw [ups_take ps k h, if_pos hu]
  unfold putUs
  rw [List.foldl_append]
  rfl
theorem putUs_stay (ps : List Prot) (k : Nat) (h : k < ps.length) (hu : isUp ps[k] = false) : putUs (ups (ps.take (k + 1))) = putUs (ups (ps.take k)) := by
  rw [ups_take ps k h, hu]
  simp
theorem putU_has {l : List Int} {n : Int} (hl : Asc l) (h : n ∈ l) : putU l n = l :=
  asc_ext (putU_asc hl n) hl (fun m => by rw [putU_mem]; exact ⟨fun hh => hh.elim (fun e => e ▸ h) id, .inr⟩)

set_option maxRecDepth 100000 in
set_option maxHeartbeats 2000000 in
theorem impl_UpheldRunners (ps : List Prot) (v : Value) (w : World) (h : Sl (Flat Prot.lst) 6 w v ps) (_ : ∀ p ∈ ps, Prot.ok p) :
    Calls Try.prog 46 #[v] w fun e w' => ∃ r, e = .returned (.tuple #[r, .bool (good ps)]) ∧ Row w.heap.size 3 1 w' r ((upM ps).map ints) ∧ Below w.heap.size w w' := by
  by_cases hgd : good ps = true
  rotate_left
  · have hg' : good ps = false := by simpa using hgd
    rw [upM_false hg', hg']
    have HG := Lib.hid hg'
    clear hgd hg'
    go_enter Try.func46, Try.ntmps46
    go_wp2_with (go_at_call 22; refine (areProtests_any ps v _ h).mono ?_; rintro e w1 ⟨rfl, hb1⟩; rw [HG.out])
    go_ret2
    exact ⟨_, rfl, Row.nil _ _ _ _, hb1⟩
  have hn10 := (good_iff.1 hgd).2
  have HM := Lib.hid (show upM ps = squeeze (putAll ltI (ups ps)) by rw [upM_true hgd, squeeze_ups])
  rw [hgd]
  have HA := Lib.hid (areProtests_any ps v w h)
  rw [hgd] at HA
  obtain ⟨A, c, rfl, hc, hm, hk⟩ := h.open_
  clear h hgd
  go_enter Try.func46, Try.ntmps46
  go_wp2_with (go_at_call 22; refine HA.out.mono ?_; rintro e w1 ⟨rfl, hb1⟩)
  have ownN : Own w 3 1 (w1.alloc (.cells #[] 3)) (.slice (some ⟨w1.heap.size, 0, none⟩) 0 0) [] := Own.nil hb1 _ rfl
  clear HA
  go_loopw [4, 13] (fun s i wr => ∃ (k g m cap : Nat), k ≤ ps.length ∧ i = .int .i64 k ∧ s = .slice (some ⟨g, 0, none⟩) m cap ∧ Own w 3 1 wr s ((ups (ps.take k)).map ints))
    (fun _ i _ => ps.length - (intOf i).toNat)
  case atStart => exact ⟨0, _, _, _, Nat.zero_le _, rfl, rfl, ownN⟩
  case round =>
    clear ownN
    obtain ⟨k, g0, m0, cap0, hkl, rfl, rfl, own⟩ := hrel
    by_cases hlt : k < ps.length
    · obtain ⟨g, off, rfl, hat⟩ := flat_at hk (by omega)
      have hr := rangeAt_below (hat k hlt) own.2
      have HS := Lib.hid (ups_take ps k hlt)
      have HLL := Lib.hid (show ((ups (ps.take k)).map ints).length + 1 ≤ 2147483648 by have := ups_len (ps.take k); simp at this ⊢; omega)
      obtain ⟨pl, hpl⟩ : ∃ pl, pl = ups (ps.take k) := ⟨_, rfl⟩
      rw [← hpl] at own HS HLL
      obtain ⟨x, hx⟩ : ∃ x, x = ps[k] := ⟨_, rfl⟩
      rw [← hx] at hr HS
      obtain ⟨u, hu⟩ : ∃ u, isUp x = u := ⟨_, rfl⟩
      rw [hu] at HS
      have hu' : (x.state == 2) = u := hu
      have hcn := Prot.cells (Prot.rangeNew wr x 25)
      simp only [Nat.zero_add] at hcn
      have HO2 := Lib.hid (own.alloc (.cells #[.int .i64 x.id, .int .i64 x.against, .int .i64 x.by_, .int .i64 x.made, .int .i64 x.state, .int .i64 x.votes] 25))
      clear hk hat hx hpl own hu
      cases u
      · go_wp2_with ((with_reducible refine at_load_ 25 ?_); refine Prot.loadImpl rfl _ rfl g (off + k * 6) rfl x hr ?_)
        go_roundw
        case rel => exact ⟨k + 1, _, _, _, by omega, by go_num, rfl, by rw [HS.out]; simpa using HO2.out⟩
        case measure => simp [intOf]; omega
      · go_wp2_with (first
          | ((with_reducible refine at_load_ 25 ?_); refine Prot.loadImpl rfl _ rfl g (off + k * 6) rfl x hr ?_)
          | (at_builtin; refine tyInt.append rfl _ _ rfl w.heap.size _ _ rfl (HO2.out.alloc _).1 _ 1 1 [ints x.against] rfl (Src.lit _ _ (ints x.against) _ (by simp) rfl (ints_one _)) HLL.out (by simp; have := HO2.out.2.size; simp at this; omega) ?_; intro o4 w4 hrow4 hg4 _))
        have HB4 := Lib.hid ((HO2.out.alloc (.cells #[.int .i64 x.against] 3)).2.grown hg4 (HO2.out.alloc (.cells #[.int .i64 x.against] 3)).2.size (fun q hq => (HO2.out.1.lt q hq).1))
        obtain ⟨g4, cap4, rfl, _⟩ := hrow4.form (by simp)
        go_roundw
        case rel => exact ⟨k + 1, _, _, _, by omega, by go_num, rfl, by rw [HS.out, if_pos rfl, List.map_append]; exact ⟨hrow4, HB4.out⟩⟩
        case measure => simp [intOf]; omega
    · obtain rfl : k = ps.length := by omega
      rw [List.take_length] at own
      have hul := ups_len ps
      have hm0 : m0 = (ups ps).length := by have := own.1.none_len; simpa using this
      subst hm0
      obtain ⟨A2, c2, he2, hc2, hm2⟩ := own.1.parts
      simp only [Value.slice.injEq] at he2
      obtain ⟨hA2, hL2, rfl⟩ := he2
      clear hA2 hL2
      have hpl : (putAll ltI (ups ps)).length = (ups ps).length := (putAll_perm _ _).length_eq
      have OWN := Lib.hid own
      clear own hk
      go_wp2_with fail
      refine (sort_any w.heap.size g0 _ _ (ups ps) _ OWN.out.1 rfl hm2 (by omega)).mono ?_
      rintro e w4 ⟨rfl, row4, hg4⟩
      go_wp2_with fail
      refine (compact_int w.heap.size (putAll ltI (ups ps)) _ _ row4 (by omega)).mono ?_
      rintro e w5 ⟨r, rfl, row5, hg5, _⟩
      go_wp2
      go_ret2
      have hB4 := OWN.out.2.grown hg4 OWN.out.2.size (fun q hq => (OWN.out.1.lt q hq).1)
      exact ⟨_, rfl, by rw [HM.out]; exact row5, hB4.grown hg5 hB4.size (fun q hq => (row4.lt q hq).1)⟩

set_option maxRecDepth 100000 in
set_option maxHeartbeats 2000000 in
theorem spec_UpheldRunners (ps : List Prot) (v : Value) (w : World) (h : Sl (Flat Prot.lst) 6 w v ps) (_ : ∀ p ∈ ps, Prot.ok p) :
    Calls Try.prog 45 #[v] w fun e w' => ∃ r, e = .returned (.tuple #[r, .bool (good ps)]) ∧ Row w.heap.size 3 1 w' r ((upM ps).map ints) ∧ Below w.heap.size w w' := by
  have ownN : Own w 3 1 (w.alloc (.cells #[] 3)) (.slice (some ⟨w.heap.size, 0, none⟩) 0 0) [] := Own.nil (Below.refl _ _) _ rfl
  have HA := Lib.hid (l22Good_any ps v (w.alloc (.cells #[] 3)) (h.below (Flat.keeps _) (below_alloc (Below.refl _ _) _)))
  have HON := Lib.hid ownN
  clear ownN
  by_cases hgd : good ps = true
  rotate_left
  · have hg' : good ps = false := by simpa using hgd
    rw [upM_false hg', hg']
    rw [hg'] at HA
    clear hgd hg' h
    go_enter Try.func45, Try.ntmps45
    go_wp2_with (go_at_call 64; refine HA.out.mono ?_; rintro e w1 ⟨rfl, hb1⟩)
    go_ret2
    exact ⟨_, rfl, (HON.out.below hb1).1, (HON.out.below hb1).2⟩
  have hn10 := (good_iff.1 hgd).2
  have HM := Lib.hid (upM_true hgd)
  rw [hgd]
  rw [hgd] at HA
  obtain ⟨A, c, rfl, hc, hm, hk⟩ := h.open_
  clear h hgd
  go_enter Try.func45, Try.ntmps45
  go_wp2_with (go_at_call 64; refine HA.out.mono ?_; rintro e w1 ⟨rfl, hb1⟩)
  have HON1 := Lib.hid (HON.out.below hb1)
  clear HA HON hb1
  go_loopw [4, 5] (fun s i wr => ∃ k : Nat, k ≤ ps.length ∧ i = .int .i64 k ∧ Hid (Own w 3 1 wr s ((putUs (ups (ps.take k))).map ints)))
    (fun _ i _ => ps.length - (intOf i).toNat)
  case atStart => exact ⟨0, Nat.zero_le _, rfl, HON1.out⟩
  case round =>
    clear HON1
    obtain ⟨k, hkl, rfl, OWN⟩ := hrel
    by_cases hlt : k < ps.length
    · obtain ⟨g, off, rfl, hat⟩ := flat_at hk (by omega)
      obtain ⟨hr0, hr1, hr2, hr3, hr4, hr5⟩ := Prot.cells (rangeAt_below (hat k hlt) OWN.out.2)
      have HP := Lib.hid (putUs_push ps k hlt)
      have HST := Lib.hid (putUs_stay ps k hlt)
      have hll : (putUs (ups (ps.take k))).length ≤ 1048577 := by
        rw [← squeeze_ups]
        have h1 := squeeze_len (putAll ltI (ups (ps.take k)))
        have h2 : (putAll ltI (ups (ps.take k))).length = (ups (ps.take k)).length := (putAll_perm _ _).length_eq
        have h3 := ups_len (ps.take k)
        simp at h3
        omega
      have HAS := Lib.hid (putUs_ok (ups (ps.take k))).1
      obtain ⟨l, hl⟩ : ∃ l, l = putUs (ups (ps.take k)) := ⟨_, rfl⟩
      rw [← hl] at OWN HP HST hll HAS
      obtain ⟨x, hx⟩ : ∃ x, x = ps[k] := ⟨_, rfl⟩
      rw [← hx] at hr0 hr1 hr2 hr3 hr4 hr5 HP HST
      obtain ⟨u, hu⟩ : ∃ u, isUp x = u := ⟨_, rfl⟩
      rw [hu] at HP HST
      have hu' : (x.state == 2) = u := hu
      obtain ⟨q, hq⟩ : ∃ q, l.any (fun y => x.against == y) = q := ⟨_, rfl⟩
      have HQ := Lib.hid hq
      clear hk hat hx hl hu hq
      cases u
      · go_wp2
        go_roundw
        case rel => exact ⟨k + 1, by omega, by go_num, by rw [HST.out rfl]; exact OWN.out⟩
        case measure => simp [intOf]; omega
      · cases q
        · go_wp2_with (first
            | (go_at_call 82; refine (l1Has_any l _ x.against _ (Sl.of_flat OWN.out.1)).mono ?_; rintro e w4 ⟨rfl, rfl⟩; rw [HQ.out])
            | (go_at_call 83; refine (l1Put_any l x.against _ _ OWN.out hll).mono ?_; rintro e w5 ⟨r, rfl, own5, hb5⟩))
          go_roundw
          case rel => exact ⟨k + 1, by omega, by go_num, by rw [HP.out (by trivial)]; exact own5⟩
          case measure => simp [intOf]; omega
        · have hin : x.against ∈ l := by
            obtain ⟨y, hy, hxy⟩ := List.any_eq_true.1 HQ.out
            have : x.against = y := by simpa using hxy
            exact this ▸ hy
          have HN := Lib.hid (putU_has HAS.out hin)
          clear hin
          go_wp2_with (go_at_call 82; refine (l1Has_any l _ x.against _ (Sl.of_flat OWN.out.1)).mono ?_; rintro e w4 ⟨rfl, rfl⟩; rw [HQ.out])
          go_roundw
          case rel => exact ⟨k + 1, by omega, by go_num, by rw [HP.out (by trivial), HN.out]; exact OWN.out⟩
          case measure => simp [intOf]; omega
    · obtain rfl : k = ps.length := by omega
      rw [List.take_length] at OWN
      go_wp2
      go_ret2
      exact ⟨_, rfl, by rw [HM.out]; exact OWN.out.1, OWN.out.2⟩
end Go.Proofs.Ytabihggfnofcbaa
