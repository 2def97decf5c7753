/- The walks of ProtestsAbout, of the program and of the reference. No condition. -/
import Derived.Test.YtabihggfnofcbaaCanPublish
namespace Go.Proofs.Ytabihggfnofcbaa
open Go Go.RowKit

def Apart (v1 v2 : Value) : Prop := v1.ownBlock = none ∨ v1.ownBlock ≠ v2.ownBlock
theorem Apart.symm {a b : Value} (h : Apart a b) : Apart b a := by
  unfold Apart at *
  rcases h with h | h
  · rw [h]
    cases b.ownBlock with
    | none => exact .inl rfl
    | some g => exact .inr (by simp)
  · exact .inr (fun e => h e.symm)
theorem Apart.grow {a a' b : Value} {base : Nat} {e : TypeId} {sz : Nat} {w : World} {ys : List (List Value)} (h : Apart a b) (hb : Row base e sz w b ys) (hat : a'.ownBlock = a.ownBlock ∨ a'.ownBlock = some w.heap.size) : Apart a' b := by
  unfold Apart at *
  rcases hat with e1 | e1
  · rw [e1]; exact h
  · rw [e1]
    right
    intro e2
    exact absurd (hb.lt _ e2.symm).2 (Nat.lt_irrefl _)

theorem range_grown {w w' : World} {b off : Nat} {cs : List Value} {row : Option Nat} (h : w.rangeAt b off cs) (hg : w.grownBy w' row) (hne : some b ≠ row) : w'.rangeAt b off cs := fun j u hu => hg.cell (h j u hu) hne
theorem ne_own {base : Nat} {e : TypeId} {sz : Nat} {w : World} {v : Value} {ys : List (List Value)} {b : Nat} (h : Row base e sz w v ys) (hb : b < base ∨ w.heap.size ≤ b) : some b ≠ v.ownBlock := by
  intro he
  have := h.lt b he.symm
  omega

def aboutL (ps : List Prot) (r : Int) : List Int := (ps.filter (fun p => p.against == r)).map Prot.id
def byL (ps : List Prot) (r : Int) : List Int := (ps.filter (fun p => p.by_ == r)).map Prot.id
theorem about_take (ps : List Prot) (r : Int) (k : Nat) (h : k < ps.length) : aboutL (ps.take (k + 1)) r = aboutL (ps.take k) r ++ if (ps[k].against == r) = true then [ps[k].id] else [] := by
  rw [List.take_succ_eq_append_getElem h]
  unfold aboutL
  rw [List.filter_append, List.map_append]
  by_cases hp : (ps[k].against == r) = true <;> simp [hp]
theorem by_take (ps : List Prot) (r : Int) (k : Nat) (h : k < ps.length) : byL (ps.take (k + 1)) r = byL (ps.take k) r ++ if (ps[k].by_ == r) = true then [ps[k].id] else [] := by
  rw [List.take_succ_eq_append_getElem h]
  unfold byL
  rw [List.filter_append, List.map_append]
  by_cases hp : (ps[k].by_ == r) = true <;> simp [hp]
theorem about_len (ps : List Prot) (r : Int) : (aboutL ps r).length ≤ ps.length := by
  unfold aboutL
  rw [List.length_map]
  exact List.length_filter_le _ _
theorem by_len (ps : List Prot) (r : Int) : (byL ps r).length ≤ ps.length := by
  unfold byL
  rw [List.length_map]
  exact List.length_filter_le _ _
noncomputable def okA (x : List Prot) (r : Int) : Bool := good x && inB r 1 999
noncomputable def aboutM (x : List Prot) (r : Int) : List Int := if okA x r = true then aboutL x r else []
noncomputable def byM (x : List Prot) (r : Int) : List Int := if okA x r = true then byL x r else []
theorem okA_len {x : List Prot} {r : Int} (h : okA x r = true) : x.length ≤ 10 := by
  simp [okA] at h
  exact (good_iff.1 h.1).2
theorem aboutM_len (x : List Prot) (r : Int) : (aboutM x r).length ≤ 10 := by
  unfold aboutM
  split
  · rename_i h; exact Nat.le_trans (about_len x r) (okA_len h)
  · simp
theorem byM_len (x : List Prot) (r : Int) : (byM x r).length ≤ 10 := by
  unfold byM
  split
  · rename_i h; exact Nat.le_trans (by_len x r) (okA_len h)
  · simp


set_option maxHeartbeats 4000000 in
theorem implAbout_any (ps : List Prot) (v : Value) (r : Int) (w : World) (h : Sl (Flat Prot.lst) 6 w v ps) :
    Calls Try.prog 31 #[v, .int .i64 r] w fun e w' => ∃ ra rb, e = .returned (.tuple #[ra, rb, .bool (okA ps r)]) ∧ Row w.heap.size 3 1 w' ra ((aboutM ps r).map ints) ∧ Row w.heap.size 3 1 w' rb ((byM ps r).map ints) ∧ Apart ra rb ∧ Below w.heap.size w w' := by
  by_cases hok : okA ps r = true
  rotate_left
  · have hok' : okA ps r = false := by simpa using hok
    rw [show aboutM ps r = [] from by simp [aboutM, hok'], show byM ps r = [] from by simp [byM, hok'], hok']
    have hok2 : good ps = false ∨ (good ps = true ∧ inB r 1 999 = false) := by
      cases hgg : good ps <;> simp [okA, hgg] at hok' ⊢
      exact hok'
    clear hok hok'
    rcases hok2 with hg | ⟨hg, hi⟩
    all_goals
      go_enter Try.func31, Try.ntmps31
      go_wp2_with (first
        | (go_at_call 22; refine (areProtests_any ps _ _ h).mono ?_; rintro e w1 ⟨rfl, hb1⟩)
        | (go_at_call 62; refine (isRunnerNumber_any _ _).mono ?_; rintro e w' ⟨rfl, rfl⟩))
      all_goals (go_ret3; exact ⟨_, _, rfl, Row.nil _ _ _ _, Row.nil _ _ _ _, Or.inl rfl, hb1⟩)
  · have hg : good ps = true := by simp [okA] at hok; exact hok.1
    have hi : inB r 1 999 = true := by simp [okA] at hok; exact hok.2
    have hn := okA_len hok
    rw [show aboutM ps r = aboutL ps r from by simp [aboutM, hok], show byM ps r = byL ps r from by simp [byM, hok], hok]
    clear hok
    obtain ⟨A, c, rfl, hc, hm, hk⟩ := h.open_
    go_enter Try.func31, Try.ntmps31
    go_wp2_with (first
      | (go_at_call 22; refine (areProtests_any ps _ _ h).mono ?_; rintro e w1 ⟨rfl, hb1⟩)
      | (go_at_call 62; refine (isRunnerNumber_any _ _).mono ?_; rintro e w' ⟨rfl, rfl⟩))
    go_loopw [7, 8, 23] (fun oa ob i wr => ∃ k : Nat, k ≤ ps.length ∧ i = .int .i64 k ∧ Row w.heap.size 3 1 wr oa ((aboutL (ps.take k) r).map ints) ∧ Row w.heap.size 3 1 wr ob ((byL (ps.take k) r).map ints) ∧ Apart oa ob ∧ Below w.heap.size w wr)
      (fun _ _ i _ => ps.length - (intOf i).toNat)
    case atStart => exact ⟨0, Nat.zero_le _, rfl, (Row.lit_nil w1 _ _ hb1.size).alloc _, by have := Row.lit_nil (w1.alloc (.cells #[] 3)) 3 1 (base := w.heap.size) (by have h := hb1.size; simp at h ⊢; omega); simpa [byL] using this, Or.inr (by simp [Value.ownBlock]), (hb1.alloc hb1.size _).alloc (by have h := hb1.size; simp at h ⊢; omega) _⟩
    case round =>
      obtain ⟨k, hkl, rfl, hrowA, hrowB, hap, hb⟩ := hrel
      by_cases hlt : k < ps.length
      · obtain ⟨b, off, rfl, hat⟩ := flat_at hk (by omega)
        have hblt : b < w.heap.size := block_lt_of_cell (Prot.cells (hat k hlt)).1
        have hr := rangeAt_below (hat k hlt) hb
        have hcs := Prot.cells (Prot.rangeNew wr ps[k] 25)
        simp only [Nat.zero_add] at hcs
        have HLA := Lib.hid (show ((aboutL (ps.take k) r).map ints).length + 1 ≤ 2147483648 by have h1 := about_len (ps.take k) r; have h2 : (ps.take k).length ≤ k := List.length_take_le _ _; simp; omega)
        have HLB := Lib.hid (show ((byL (ps.take k) r).map ints).length + 1 ≤ 2147483648 by have h1 := by_len (ps.take k) r; have h2 : (ps.take k).length ≤ k := List.length_take_le _ _; simp; omega)
        have HG := Lib.hid hg
        clear hat hk h hg hi hb1
        by_cases hA : ps[k].against = r
        · by_cases hB : ps[k].by_ = r
          · have hA' : (ps[k].against == r) = true := by simpa using hA
            have hB' : (ps[k].by_ == r) = true := by simpa using hB
            have HTA := Lib.hid (about_take ps r k hlt)
            have HTB := Lib.hid (by_take ps r k hlt)
            have HA := Lib.hid hA'
            have HB := Lib.hid hB'
            clear hA hB
            have hrowAx := hrowA.alloc (.cells #[.int .i64 ps[k].id, .int .i64 ps[k].against, .int .i64 ps[k].by_, .int .i64 ps[k].made, .int .i64 ps[k].state, .int .i64 ps[k].votes] 25)
            have hrowBx := hrowB.alloc (.cells #[.int .i64 ps[k].id, .int .i64 ps[k].against, .int .i64 ps[k].by_, .int .i64 ps[k].made, .int .i64 ps[k].state, .int .i64 ps[k].votes] 25)
            have hBx := hb.alloc hb.size (.cells #[.int .i64 ps[k].id, .int .i64 ps[k].against, .int .i64 ps[k].by_, .int .i64 ps[k].made, .int .i64 ps[k].state, .int .i64 ps[k].votes] 25)
            go_wp2_with (first
              | ((with_reducible refine at_load_ 25 ?_); refine Prot.loadImpl rfl _ rfl b (off + k * 6) rfl ps[k] hr ?_)
              | (at_builtin; refine tyInt.append rfl _ _ rfl w.heap.size u7 _ rfl (hrowAx.alloc _) _ 1 1 [ints ps[k].id] rfl (Src.one_at _ _ (ints ps[k].id) _ (by simp) (ints_one _)) HLA.out (by have h := hBx.size; simp at h ⊢; omega) ?_; intro oa2 w2 hrowA2 hg2 hat2; have hrowB2 := Row.kept (hrowBx.alloc _) hg2 (Apart.symm hap); have hap2 := Apart.grow hap (hrowBx.alloc _) hat2; have hB2 := (hBx.alloc hBx.size _).grown hg2 (by have h := hBx.size; simp at h ⊢; omega) (fun q hq => (hrowAx.lt q hq).1); have hcs2 := Prot.cells (range_grown (rangeAt_below (Prot.rangeNew wr ps[k] 25) (Below.alloc (Below.refl _ _) (Nat.le_refl _) _)) hg2 (ne_own hrowA (.inr (Nat.le_refl _)))); simp only [Nat.zero_add] at hcs2)
              | (at_builtin; refine tyInt.append rfl _ _ rfl w.heap.size u8 _ rfl (hrowB2.alloc _) _ 1 1 [ints ps[k].id] rfl (Src.one_at _ _ (ints ps[k].id) _ (by simp) (ints_one _)) HLB.out (by have h := hB2.size; simp at h ⊢; omega) ?_; intro ob3 w3 hrowB3 hg3 hat3; have hrowA3 := Row.kept (hrowA2.alloc _) hg3 hap2; have hap3 := Apart.symm (Apart.grow (Apart.symm hap2) (hrowA2.alloc _) hat3); have hB3 := (hB2.alloc hB2.size _).grown hg3 (by have h := hB2.size; simp at h ⊢; omega) (fun q hq => (hrowB2.lt q hq).1)))
            go_roundw
            case rel =>
              refine ⟨k + 1, by omega, by go_num, ?_, ?_, hap3, hB3⟩
              · rw [HTA.out, HA.out]; simpa using hrowA3
              · rw [HTB.out, HB.out]; simpa using hrowB3
            case measure => simp [intOf]; omega
          · have hA' : (ps[k].against == r) = true := by simpa using hA
            have hB' : (ps[k].by_ == r) = false := by simpa using hB
            have HTA := Lib.hid (about_take ps r k hlt)
            have HTB := Lib.hid (by_take ps r k hlt)
            have HA := Lib.hid hA'
            have HB := Lib.hid hB'
            clear hA hB
            have hrowAx := hrowA.alloc (.cells #[.int .i64 ps[k].id, .int .i64 ps[k].against, .int .i64 ps[k].by_, .int .i64 ps[k].made, .int .i64 ps[k].state, .int .i64 ps[k].votes] 25)
            have hrowBx := hrowB.alloc (.cells #[.int .i64 ps[k].id, .int .i64 ps[k].against, .int .i64 ps[k].by_, .int .i64 ps[k].made, .int .i64 ps[k].state, .int .i64 ps[k].votes] 25)
            have hBx := hb.alloc hb.size (.cells #[.int .i64 ps[k].id, .int .i64 ps[k].against, .int .i64 ps[k].by_, .int .i64 ps[k].made, .int .i64 ps[k].state, .int .i64 ps[k].votes] 25)
            go_wp2_with (first
              | ((with_reducible refine at_load_ 25 ?_); refine Prot.loadImpl rfl _ rfl b (off + k * 6) rfl ps[k] hr ?_)
              | (at_builtin; refine tyInt.append rfl _ _ rfl w.heap.size u7 _ rfl (hrowAx.alloc _) _ 1 1 [ints ps[k].id] rfl (Src.one_at _ _ (ints ps[k].id) _ (by simp) (ints_one _)) HLA.out (by have h := hBx.size; simp at h ⊢; omega) ?_; intro oa2 w2 hrowA2 hg2 hat2; have hrowB2 := Row.kept (hrowBx.alloc _) hg2 (Apart.symm hap); have hap2 := Apart.grow hap (hrowBx.alloc _) hat2; have hB2 := (hBx.alloc hBx.size _).grown hg2 (by have h := hBx.size; simp at h ⊢; omega) (fun q hq => (hrowAx.lt q hq).1); have hcs2 := Prot.cells (range_grown (rangeAt_below (Prot.rangeNew wr ps[k] 25) (Below.alloc (Below.refl _ _) (Nat.le_refl _) _)) hg2 (ne_own hrowA (.inr (Nat.le_refl _)))); simp only [Nat.zero_add] at hcs2))
            go_roundw
            case rel =>
              refine ⟨k + 1, by omega, by go_num, ?_, ?_, hap2, hB2⟩
              · rw [HTA.out, HA.out]; simpa using hrowA2
              · rw [HTB.out, HB.out]; simpa using hrowB2
            case measure => simp [intOf]; omega
        · by_cases hB : ps[k].by_ = r
          · have hA' : (ps[k].against == r) = false := by simpa using hA
            have hB' : (ps[k].by_ == r) = true := by simpa using hB
            have HTA := Lib.hid (about_take ps r k hlt)
            have HTB := Lib.hid (by_take ps r k hlt)
            have HA := Lib.hid hA'
            have HB := Lib.hid hB'
            clear hA hB
            have hrowAx := hrowA.alloc (.cells #[.int .i64 ps[k].id, .int .i64 ps[k].against, .int .i64 ps[k].by_, .int .i64 ps[k].made, .int .i64 ps[k].state, .int .i64 ps[k].votes] 25)
            have hrowBx := hrowB.alloc (.cells #[.int .i64 ps[k].id, .int .i64 ps[k].against, .int .i64 ps[k].by_, .int .i64 ps[k].made, .int .i64 ps[k].state, .int .i64 ps[k].votes] 25)
            have hBx := hb.alloc hb.size (.cells #[.int .i64 ps[k].id, .int .i64 ps[k].against, .int .i64 ps[k].by_, .int .i64 ps[k].made, .int .i64 ps[k].state, .int .i64 ps[k].votes] 25)
            go_wp2_with (first
              | ((with_reducible refine at_load_ 25 ?_); refine Prot.loadImpl rfl _ rfl b (off + k * 6) rfl ps[k] hr ?_)
              | (at_builtin; refine tyInt.append rfl _ _ rfl w.heap.size u8 _ rfl (hrowBx.alloc _) _ 1 1 [ints ps[k].id] rfl (Src.one_at _ _ (ints ps[k].id) _ (by simp) (ints_one _)) HLB.out (by have h := hBx.size; simp at h ⊢; omega) ?_; intro ob3 w3 hrowB3 hg3 hat3; have hrowA3 := Row.kept (hrowAx.alloc _) hg3 hap; have hap3 := Apart.symm (Apart.grow (Apart.symm hap) (hrowAx.alloc _) hat3); have hB3 := (hBx.alloc hBx.size _).grown hg3 (by have h := hBx.size; simp at h ⊢; omega) (fun q hq => (hrowBx.lt q hq).1)))
            go_roundw
            case rel =>
              refine ⟨k + 1, by omega, by go_num, ?_, ?_, hap3, hB3⟩
              · rw [HTA.out, HA.out]; simpa using hrowA3
              · rw [HTB.out, HB.out]; simpa using hrowB3
            case measure => simp [intOf]; omega
          · have hA' : (ps[k].against == r) = false := by simpa using hA
            have hB' : (ps[k].by_ == r) = false := by simpa using hB
            have HTA := Lib.hid (about_take ps r k hlt)
            have HTB := Lib.hid (by_take ps r k hlt)
            have HA := Lib.hid hA'
            have HB := Lib.hid hB'
            clear hA hB
            have hrowAx := hrowA.alloc (.cells #[.int .i64 ps[k].id, .int .i64 ps[k].against, .int .i64 ps[k].by_, .int .i64 ps[k].made, .int .i64 ps[k].state, .int .i64 ps[k].votes] 25)
            have hrowBx := hrowB.alloc (.cells #[.int .i64 ps[k].id, .int .i64 ps[k].against, .int .i64 ps[k].by_, .int .i64 ps[k].made, .int .i64 ps[k].state, .int .i64 ps[k].votes] 25)
            have hBx := hb.alloc hb.size (.cells #[.int .i64 ps[k].id, .int .i64 ps[k].against, .int .i64 ps[k].by_, .int .i64 ps[k].made, .int .i64 ps[k].state, .int .i64 ps[k].votes] 25)
            go_wp2_with (first
              | ((with_reducible refine at_load_ 25 ?_); refine Prot.loadImpl rfl _ rfl b (off + k * 6) rfl ps[k] hr ?_))
            go_roundw
            case rel =>
              refine ⟨k + 1, by omega, by go_num, ?_, ?_, hap, hBx⟩
              · rw [HTA.out, HA.out]; simpa using hrowAx
              · rw [HTB.out, HB.out]; simpa using hrowBx
            case measure => simp [intOf]; omega
      · go_wp2
        go_ret3
        obtain rfl : k = ps.length := by omega
        rw [List.take_length] at hrowA hrowB
        exact ⟨_, _, rfl, hrowA, hrowB, hap, hb⟩


set_option maxHeartbeats 4000000 in
theorem specAbout_any (ps : List Prot) (v : Value) (r : Int) (w : World) (h : Sl (Flat Prot.lst) 6 w v ps) :
    Calls Try.prog 30 #[v, .int .i64 r] w fun e w' => ∃ ra rb, e = .returned (.tuple #[ra, rb, .bool (okA ps r)]) ∧ Row w.heap.size 3 1 w' ra ((aboutM ps r).map ints) ∧ Row w.heap.size 3 1 w' rb ((byM ps r).map ints) ∧ Apart ra rb ∧ Below w.heap.size w w' := by
  by_cases hok : okA ps r = true
  rotate_left
  · have hok' : okA ps r = false := by simpa using hok
    rw [show aboutM ps r = [] from by simp [aboutM, hok'], show byM ps r = [] from by simp [byM, hok'], hok']
    have hok2 : good ps = false ∨ (good ps = true ∧ inB r 1 999 = false) := by
      cases hgg : good ps <;> simp [okA, hgg] at hok' ⊢
      exact hok'
    clear hok hok'
    rcases hok2 with hg | ⟨hg, hi⟩
    all_goals
      have hB0 : Below w.heap.size w ((w.alloc (.cells #[] 3)).alloc (.cells #[] 3)) := by (repeat (first | exact Below.refl _ _ | assumption | refine Below.drew ?_ | refine Below.alloc ?_ (by first | exact Nat.le_refl _ | (simp; done) | (simp; omega)) _))
      have hra0 := (Row.lit_nil w 3 1 (Nat.le_refl _)).alloc (.cells #[] 3)
      have hrb0 : Row w.heap.size 3 1 ((w.alloc (.cells #[] 3)).alloc (.cells #[] 3)) (.slice (some ⟨w.heap.size + 1, 0, none⟩) 0 0) [] := by
        have := Row.lit_nil (w.alloc (.cells #[] 3)) 3 1 (base := w.heap.size) (by simp)
        simpa using this
      go_enter Try.func30, Try.ntmps30
      go_wp2_with (first
        | (go_at_call 64; refine (l22Good_any ps _ _ (h.below (Flat.keeps _) hB0)).mono ?_; rintro e w1 ⟨rfl, hb1'⟩; have hra := hra0.below hb1'; have hrb := hrb0.below hb1'; have hb1 := step_ hB0 (Nat.le_refl _) hb1')
        | (go_at_call 68; refine (l1In_any _ _ _ _).mono ?_; rintro e w' ⟨rfl, rfl⟩))
      all_goals (go_ret3; exact ⟨_, _, rfl, hra, hrb, Or.inr (by simp [Value.ownBlock]), hb1⟩)
  · have hg : good ps = true := by simp [okA] at hok; exact hok.1
    have hi : inB r 1 999 = true := by simp [okA] at hok; exact hok.2
    have hn := okA_len hok
    rw [show aboutM ps r = aboutL ps r from by simp [aboutM, hok], show byM ps r = byL ps r from by simp [byM, hok], hok]
    clear hok
    obtain ⟨A, c, rfl, hc, hm, hk⟩ := h.open_
    have hB0 : Below w.heap.size w ((w.alloc (.cells #[] 3)).alloc (.cells #[] 3)) := by (repeat (first | exact Below.refl _ _ | assumption | refine Below.drew ?_ | refine Below.alloc ?_ (by first | exact Nat.le_refl _ | (simp; done) | (simp; omega)) _))
    have hra0 := (Row.lit_nil w 3 1 (Nat.le_refl _)).alloc (.cells #[] 3)
    have hrb0 : Row w.heap.size 3 1 ((w.alloc (.cells #[] 3)).alloc (.cells #[] 3)) (.slice (some ⟨w.heap.size + 1, 0, none⟩) 0 0) [] := by
      have := Row.lit_nil (w.alloc (.cells #[] 3)) 3 1 (base := w.heap.size) (by simp)
      simpa using this
    go_enter Try.func30, Try.ntmps30
    go_wp2_with (first
      | (go_at_call 64; refine (l22Good_any ps _ _ (h.below (Flat.keeps _) hB0)).mono ?_; rintro e w1 ⟨rfl, hb1'⟩; have hra := hra0.below hb1'; have hrb := hrb0.below hb1'; have hb1 := step_ hB0 (Nat.le_refl _) hb1')
      | (go_at_call 68; refine (l1In_any _ _ _ _).mono ?_; rintro e w' ⟨rfl, rfl⟩))
    go_loopw [7, 8, 9] (fun oa ob i wr => ∃ k : Nat, k ≤ ps.length ∧ i = .int .i64 k ∧ Row w.heap.size 3 1 wr oa ((aboutL (ps.take k) r).map ints) ∧ Row w.heap.size 3 1 wr ob ((byL (ps.take k) r).map ints) ∧ Apart oa ob ∧ Below w.heap.size w wr)
      (fun _ _ i _ => ps.length - (intOf i).toNat)
    case atStart => exact ⟨0, Nat.zero_le _, rfl, hra, hrb, Or.inr (by simp [Value.ownBlock]), hb1⟩
    case round =>
      obtain ⟨k, hkl, rfl, hrowA, hrowB, hap, hb⟩ := hrel
      by_cases hlt : k < ps.length
      · obtain ⟨b, off, rfl, hat⟩ := flat_at hk (by omega)
        have hblt : b < w.heap.size := block_lt_of_cell (Prot.cells (hat k hlt)).1
        have hr := rangeAt_below (hat k hlt) hb
        have hcs := Prot.cells hr
        have HLA := Lib.hid (show ((aboutL (ps.take k) r).map ints).length + 1 ≤ 2147483648 by have h1 := about_len (ps.take k) r; have h2 : (ps.take k).length ≤ k := List.length_take_le _ _; simp; omega)
        have HLB := Lib.hid (show ((byL (ps.take k) r).map ints).length + 1 ≤ 2147483648 by have h1 := by_len (ps.take k) r; have h2 : (ps.take k).length ≤ k := List.length_take_le _ _; simp; omega)
        have HG := Lib.hid hg
        clear hat hk h hg hi hb1
        by_cases hA : ps[k].against = r
        · by_cases hB : ps[k].by_ = r
          · have hA' : (ps[k].against == r) = true := by simpa using hA
            have hB' : (ps[k].by_ == r) = true := by simpa using hB
            have HTA := Lib.hid (about_take ps r k hlt)
            have HTB := Lib.hid (by_take ps r k hlt)
            have HA := Lib.hid hA'
            have HB := Lib.hid hB'
            clear hA hB
            have hrowAx := hrowA
            have hrowBx := hrowB
            have hBx := hb
            go_wp2_with (first
              | (at_builtin; refine tyInt.append rfl _ _ rfl w.heap.size u7 _ rfl (hrowAx.alloc _) _ 1 1 [ints ps[k].id] rfl (Src.one_at _ _ (ints ps[k].id) _ (by simp) (ints_one _)) HLA.out (by have h := hBx.size; simp at h ⊢; omega) ?_; intro oa2 w2 hrowA2 hg2 hat2; have hrowB2 := Row.kept (hrowBx.alloc _) hg2 (Apart.symm hap); have hap2 := Apart.grow hap (hrowBx.alloc _) hat2; have hB2 := (hBx.alloc hBx.size _).grown hg2 (by have h := hBx.size; simp at h ⊢; omega) (fun q hq => (hrowAx.lt q hq).1); have hcs2 := Prot.cells (range_grown (rangeAt_below hr (Below.alloc (Below.refl _ _) (Nat.le_refl _) _)) hg2 (ne_own hrowA (.inl hblt))))
              | (at_builtin; refine tyInt.append rfl _ _ rfl w.heap.size u8 _ rfl (hrowB2.alloc _) _ 1 1 [ints ps[k].id] rfl (Src.one_at _ _ (ints ps[k].id) _ (by simp) (ints_one _)) HLB.out (by have h := hB2.size; simp at h ⊢; omega) ?_; intro ob3 w3 hrowB3 hg3 hat3; have hrowA3 := Row.kept (hrowA2.alloc _) hg3 hap2; have hap3 := Apart.symm (Apart.grow (Apart.symm hap2) (hrowA2.alloc _) hat3); have hB3 := (hB2.alloc hB2.size _).grown hg3 (by have h := hB2.size; simp at h ⊢; omega) (fun q hq => (hrowB2.lt q hq).1)))
            go_roundw
            case rel =>
              refine ⟨k + 1, by omega, by go_num, ?_, ?_, hap3, hB3⟩
              · rw [HTA.out, HA.out]; simpa using hrowA3
              · rw [HTB.out, HB.out]; simpa using hrowB3
            case measure => simp [intOf]; omega
          · have hA' : (ps[k].against == r) = true := by simpa using hA
            have hB' : (ps[k].by_ == r) = false := by simpa using hB
            have HTA := Lib.hid (about_take ps r k hlt)
            have HTB := Lib.hid (by_take ps r k hlt)
            have HA := Lib.hid hA'
            have HB := Lib.hid hB'
            clear hA hB
            have hrowAx := hrowA
            have hrowBx := hrowB
            have hBx := hb
            go_wp2_with (first
              | (at_builtin; refine tyInt.append rfl _ _ rfl w.heap.size u7 _ rfl (hrowAx.alloc _) _ 1 1 [ints ps[k].id] rfl (Src.one_at _ _ (ints ps[k].id) _ (by simp) (ints_one _)) HLA.out (by have h := hBx.size; simp at h ⊢; omega) ?_; intro oa2 w2 hrowA2 hg2 hat2; have hrowB2 := Row.kept (hrowBx.alloc _) hg2 (Apart.symm hap); have hap2 := Apart.grow hap (hrowBx.alloc _) hat2; have hB2 := (hBx.alloc hBx.size _).grown hg2 (by have h := hBx.size; simp at h ⊢; omega) (fun q hq => (hrowAx.lt q hq).1); have hcs2 := Prot.cells (range_grown (rangeAt_below hr (Below.alloc (Below.refl _ _) (Nat.le_refl _) _)) hg2 (ne_own hrowA (.inl hblt)))))
            go_roundw
            case rel =>
              refine ⟨k + 1, by omega, by go_num, ?_, ?_, hap2, hB2⟩
              · rw [HTA.out, HA.out]; simpa using hrowA2
              · rw [HTB.out, HB.out]; simpa using hrowB2
            case measure => simp [intOf]; omega
        · by_cases hB : ps[k].by_ = r
          · have hA' : (ps[k].against == r) = false := by simpa using hA
            have hB' : (ps[k].by_ == r) = true := by simpa using hB
            have HTA := Lib.hid (about_take ps r k hlt)
            have HTB := Lib.hid (by_take ps r k hlt)
            have HA := Lib.hid hA'
            have HB := Lib.hid hB'
            clear hA hB
            have hrowAx := hrowA
            have hrowBx := hrowB
            have hBx := hb
            go_wp2_with (first
              | (at_builtin; refine tyInt.append rfl _ _ rfl w.heap.size u8 _ rfl (hrowBx.alloc _) _ 1 1 [ints ps[k].id] rfl (Src.one_at _ _ (ints ps[k].id) _ (by simp) (ints_one _)) HLB.out (by have h := hBx.size; simp at h ⊢; omega) ?_; intro ob3 w3 hrowB3 hg3 hat3; have hrowA3 := Row.kept (hrowAx.alloc _) hg3 hap; have hap3 := Apart.symm (Apart.grow (Apart.symm hap) (hrowAx.alloc _) hat3); have hB3 := (hBx.alloc hBx.size _).grown hg3 (by have h := hBx.size; simp at h ⊢; omega) (fun q hq => (hrowBx.lt q hq).1)))
            go_roundw
            case rel =>
              refine ⟨k + 1, by omega, by go_num, ?_, ?_, hap3, hB3⟩
              · rw [HTA.out, HA.out]; simpa using hrowA3
              · rw [HTB.out, HB.out]; simpa using hrowB3
            case measure => simp [intOf]; omega
          · have hA' : (ps[k].against == r) = false := by simpa using hA
            have hB' : (ps[k].by_ == r) = false := by simpa using hB
            have HTA := Lib.hid (about_take ps r k hlt)
            have HTB := Lib.hid (by_take ps r k hlt)
            have HA := Lib.hid hA'
            have HB := Lib.hid hB'
            clear hA hB
            have hrowAx := hrowA
            have hrowBx := hrowB
            have hBx := hb
            go_wp2
            go_roundw
            case rel =>
              refine ⟨k + 1, by omega, by go_num, ?_, ?_, hap, hBx⟩
              · rw [HTA.out, HA.out]; simpa using hrowAx
              · rw [HTB.out, HB.out]; simpa using hrowBx
            case measure => simp [intOf]; omega
      · go_wp2
        go_ret3
        obtain rfl : k = ps.length := by omega
        rw [List.take_length] at hrowA hrowB
        exact ⟨_, _, rfl, hrowA, hrowB, hap, hb⟩

theorem impl_ProtestsAbout (x : List Prot) (v : Value) (r : Int) (w : World) (h : Sl (Flat Prot.lst) 6 w v x) (_ : ∀ p ∈ x, Prot.ok p) (_ : I64 r) :
    Calls Try.prog 31 #[v, .int .i64 r] w fun e w' => ∃ ra rb, e = .returned (.tuple #[ra, rb, .bool (okA x r)]) ∧ Row w.heap.size 3 1 w' ra ((aboutM x r).map ints) ∧ Row w.heap.size 3 1 w' rb ((byM x r).map ints) ∧ Apart ra rb ∧ Below w.heap.size w w' := implAbout_any x v r w h
theorem spec_ProtestsAbout (x : List Prot) (v : Value) (r : Int) (w : World) (h : Sl (Flat Prot.lst) 6 w v x) (_ : ∀ p ∈ x, Prot.ok p) (_ : I64 r) :
    Calls Try.prog 30 #[v, .int .i64 r] w fun e w' => ∃ ra rb, e = .returned (.tuple #[ra, rb, .bool (okA x r)]) ∧ Row w.heap.size 3 1 w' ra ((aboutM x r).map ints) ∧ Row w.heap.size 3 1 w' rb ((byM x r).map ints) ∧ Apart ra rb ∧ Below w.heap.size w w' := specAbout_any x v r w h
end Go.Proofs.Ytabihggfnofcbaa
