/- The walks of the searches on a card, of the program. No condition. -/
import Derived.Test.YtojpklpfnmjikaaFoQ
import Derived.Test.YtojpklpfnmjikaaIntE
namespace Go.Proofs.Ytojpklpfnmjikaa
open Go Go.RowKit

set_option maxHeartbeats 1000000 in
theorem indexFunc_108 (cap0 : Value) (pr : Punch → Bool) (ps : List Punch) (v : Value) (w : World) (h : Sl (Flat Punch.lst) 2 w v ps)
    (hf : ∀ s : After w, ∀ k (hk : k < ps.length), Calls Try.prog 108 #[ps[k].val, cap0] s.w' fun e w' => e = .returned (.bool (pr ps[k])) ∧ Below s.w'.heap.size s.w' w') :
    Calls Try.prog 107 #[v, .func (.func 108) #[] #[cap0]] w fun e w' => e = .returned (.int .i64 (idxA pr ps)) ∧ Below w.heap.size w w' := by
  obtain ⟨A, c, rfl, hc, hm, hk⟩ := h.open_
  have HF := Lib.hid hf
  clear hf
  go_enter Try.func107, Try.ntmps107
  go_wp2
  go_loopw [8] (fun i wr => ∃ k : Nat, k ≤ ps.length ∧ i = .int .i64 k ∧ Hid (∀ j (h : j < ps.length), j < k → pr ps[j] = false) ∧ Below w.heap.size w wr)
    (fun i _ => ps.length - (intOf i).toNat)
  case atStart => exact ⟨0, Nat.zero_le _, rfl, fun j h hj => absurd hj (by omega), Below.refl _ _⟩
  case round =>
    obtain ⟨k, hkl, rfl, HS, hb⟩ := hrel
    by_cases hlt : k < ps.length
    · obtain ⟨b, off, rfl, hat⟩ := flat_at hk (by omega)
      have hr := rangeAt_below (hat k hlt) hb
      clear hat hk h
      go_wp2_with ((with_reducible refine at_load_ 77 ?_); refine Punch.loadImpl rfl _ rfl b (off + k * 2) rfl ps[k] hr ?_)
      refine (HF.out ⟨wr, hb⟩ k hlt).mono ?_
      rintro e w2 ⟨rfl, hb2⟩
      have hB := step_ hb (Nat.le_refl _) hb2
      by_cases hp : pr ps[k] = true
      · have HP := Lib.hid hp
        rw [hp]
        clear hp
        go_wp2
        go_ret
        exact ⟨ret_int (idxA_found hlt HP.out HS.out).symm, hB⟩
      · have hp' : pr ps[k] = false := by simpa using hp
        have HP := Lib.hid hp'
        rw [hp']
        clear hp hp'
        go_wp2
        go_roundw
        case rel => exact ⟨k + 1, by omega, by go_num, fun j hj hjk => by
          by_cases e : j < k
          · exact HS.out j hj e
          · obtain rfl : j = k := by omega
            exact HP.out, hB⟩
        case measure => simp [intOf]; omega
    · go_wp2
      go_ret
      obtain rfl : k = ps.length := by omega
      exact ⟨ret_int (idxA_none fun j hj => HS.out j hj hj).symm, hb⟩


set_option maxHeartbeats 1000000 in
theorem indexFunc_125 (pr : IntE → Bool) (ps : List IntE) (v : Value) (w : World) (h : Sl (Flat IntE.lst) 1 w v ps)
    (hf : ∀ s : After w, ∀ k (hk : k < ps.length), Calls Try.prog 125 #[ps[k].val] s.w' fun e w' => e = .returned (.bool (pr ps[k])) ∧ Below s.w'.heap.size s.w' w') :
    Calls Try.prog 110 #[v, .func (.func 125) #[] #[]] w fun e w' => e = .returned (.int .i64 (idxA pr ps)) ∧ Below w.heap.size w w' := by
  obtain ⟨A, c, rfl, hc, hm, hk⟩ := h.open_
  have HF := Lib.hid hf
  clear hf
  go_enter Try.func110, Try.ntmps110
  go_wp2
  go_loopw [8] (fun i wr => ∃ k : Nat, k ≤ ps.length ∧ i = .int .i64 k ∧ Hid (∀ j (h : j < ps.length), j < k → pr ps[j] = false) ∧ Below w.heap.size w wr)
    (fun i _ => ps.length - (intOf i).toNat)
  case atStart => exact ⟨0, Nat.zero_le _, rfl, fun j h hj => absurd hj (by omega), Below.refl _ _⟩
  case round =>
    obtain ⟨k, hkl, rfl, HS, hb⟩ := hrel
    by_cases hlt : k < ps.length
    · obtain ⟨b, off, rfl, hat⟩ := flat_at hk (by omega)
      have hr := rangeAt_below (hat k hlt) hb
      have hr := int_at hr
      rw [Nat.mul_one] at hr
      clear hat hk h
      go_wp2_with fail
      refine (HF.out ⟨wr, hb⟩ k hlt).mono ?_
      rintro e w2 ⟨rfl, hb2⟩
      have hB := step_ hb (Nat.le_refl _) hb2
      by_cases hp : pr ps[k] = true
      · have HP := Lib.hid hp
        rw [hp]
        clear hp
        go_wp2
        go_ret
        exact ⟨ret_int (idxA_found hlt HP.out HS.out).symm, hB⟩
      · have hp' : pr ps[k] = false := by simpa using hp
        have HP := Lib.hid hp'
        rw [hp']
        clear hp hp'
        go_wp2
        go_roundw
        case rel => exact ⟨k + 1, by omega, by go_num, fun j hj hjk => by
          by_cases e : j < k
          · exact HS.out j hj e
          · obtain rfl : j = k := by omega
            exact HP.out, hB⟩
        case measure => simp [intOf]; omega
    · go_wp2
      go_ret
      obtain rfl : k = ps.length := by omega
      exact ⟨ret_int (idxA_none fun j hj => HS.out j hj hj).symm, hb⟩


theorem containsFunc_125 (pr : IntE → Bool) (ps : List IntE) (v : Value) (w : World) (h : Sl (Flat IntE.lst) 1 w v ps)
    (hf : ∀ s : After w, ∀ k (hk : k < ps.length), Calls Try.prog 125 #[ps[k].val] s.w' fun e w' => e = .returned (.bool (pr ps[k])) ∧ Below s.w'.heap.size s.w' w') :
    Calls Try.prog 124 #[v, .func (.func 125) #[] #[]] w fun e w' => e = .returned (.bool (ps.any pr)) ∧ Below w.heap.size w w' := by
  have HI := Lib.hid (idxA_any pr ps)
  obtain ⟨r, hr⟩ : ∃ r, idxA pr ps = r := ⟨_, rfl⟩
  have hc := indexFunc_125  pr ps v w h hf
  rw [hr] at hc HI
  clear hr
  go_enter Try.func124, Try.ntmps124
  go_wp2_with (go_at_call 110; refine hc.mono ?_; rintro e w1 ⟨rfl, hb1⟩)
  go_ret
  exact ⟨ret_bool HI.out, hb1⟩


set_option maxHeartbeats 1000000 in
theorem indexFunc_100 (cap0 : Value) (pr : Run → Bool) (ps : List Run) (v : Value) (w : World) (h : Sl (Flat Run.lst) 7 w v ps)
    (hf : ∀ s : After w, ∀ k (hk : k < ps.length), Calls Try.prog 100 #[ps[k].val, cap0] s.w' fun e w' => e = .returned (.bool (pr ps[k])) ∧ Below s.w'.heap.size s.w' w') :
    Calls Try.prog 99 #[v, .func (.func 100) #[] #[cap0]] w fun e w' => e = .returned (.int .i64 (idxA pr ps)) ∧ Below w.heap.size w w' := by
  obtain ⟨A, c, rfl, hc, hm, hk⟩ := h.open_
  have HF := Lib.hid hf
  clear hf
  go_enter Try.func99, Try.ntmps99
  go_wp2
  go_loopw [8] (fun i wr => ∃ k : Nat, k ≤ ps.length ∧ i = .int .i64 k ∧ Hid (∀ j (h : j < ps.length), j < k → pr ps[j] = false) ∧ Below w.heap.size w wr)
    (fun i _ => ps.length - (intOf i).toNat)
  case atStart => exact ⟨0, Nat.zero_le _, rfl, fun j h hj => absurd hj (by omega), Below.refl _ _⟩
  case round =>
    obtain ⟨k, hkl, rfl, HS, hb⟩ := hrel
    by_cases hlt : k < ps.length
    · obtain ⟨b, off, rfl, hat⟩ := flat_at hk (by omega)
      have hr := rangeAt_below (hat k hlt) hb
      clear hat hk h
      go_wp2_with ((with_reducible refine at_load_ 53 ?_); refine Run.loadImpl rfl _ rfl b (off + k * 7) rfl ps[k] hr ?_)
      refine (HF.out ⟨wr, hb⟩ k hlt).mono ?_
      rintro e w2 ⟨rfl, hb2⟩
      have hB := step_ hb (Nat.le_refl _) hb2
      by_cases hp : pr ps[k] = true
      · have HP := Lib.hid hp
        rw [hp]
        clear hp
        go_wp2
        go_ret
        exact ⟨ret_int (idxA_found hlt HP.out HS.out).symm, hB⟩
      · have hp' : pr ps[k] = false := by simpa using hp
        have HP := Lib.hid hp'
        rw [hp']
        clear hp hp'
        go_wp2
        go_roundw
        case rel => exact ⟨k + 1, by omega, by go_num, fun j hj hjk => by
          by_cases e : j < k
          · exact HS.out j hj e
          · obtain rfl : j = k := by omega
            exact HP.out, hB⟩
        case measure => simp [intOf]; omega
    · go_wp2
      go_ret
      obtain rfl : k = ps.length := by omega
      exact ⟨ret_int (idxA_none fun j hj => HS.out j hj hj).symm, hb⟩


/-- What is cut off behind k reads as the rest. -/
theorem Sl.cut {α : Type} {enc : α → List Value} {sz : Nat} {w : World} {A : Option Addr} {n c k : Nat} {xs : List α} (h : Sl (Flat enc) sz w (.slice A n c) xs) (hk : k ≤ n) :
    Sl (Flat enc) sz w (.slice (if c = k then A else A.map fun a => a.add (k * sz)) (n - k) (c - k)) (xs.drop k) := by
  obtain ⟨A', c', hv, hc, hm, hat⟩ := h
  simp only [Value.slice.injEq] at hv
  obtain ⟨rfl, rfl, rfl⟩ := hv
  refine ⟨_, _, by rw [List.length_drop], by rw [List.length_drop]; omega, by omega, fun hp => ?_⟩
  rw [List.length_drop] at hp
  obtain ⟨b, off, hA, hr⟩ := hat (by omega)
  rw [if_neg (by omega), hA]
  refine ⟨b, off + k * sz, by simp only [Option.map_some]; rw [Addr.add_mid], fun j hj => ?_⟩
  rw [List.length_drop] at hj
  obtain ⟨cs, h1, h2, h3⟩ := hr (k + j) (by omega)
  refine ⟨cs, h1, ?_, ?_⟩
  · rw [Nat.add_mul, ← Nat.add_assoc] at h2; exact h2
  · have e : (xs.drop k)[j]'(by rw [List.length_drop]; exact hj) = xs[k + j]'(by omega) := List.getElem_drop
    rw [e]; exact h3

theorem codeIs_any (p : Punch) (c : Int) (b : Nat) (w : World) (hc : w.cell? ⟨b, 0, none⟩ = some (.int .i64 c)) :
    Calls Try.prog 108 #[p.val, .pointer (some ⟨b, 0, none⟩)] w fun e w' => e = .returned (.bool (codeIs c p)) ∧ Below w.heap.size w w' := by
  obtain ⟨x, y⟩ := p
  have hlt := block_lt_of_cell hc
  simp only at hlt
  show Calls Try.prog 108 #[.agg #[.int .i64 x, .int .i64 y], .pointer (some ⟨b, 0, none⟩)] w _
  have hcw : (w.alloc (.cells #[.int .i64 x, .int .i64 y] 77)).cell? ⟨b, 0, none⟩ = some (.int .i64 c) := After.keep hc ⟨_, below_alloc (Below.refl _ _) _⟩
  go_enter Try.func108, Try.ntmps108
  go_wp2
  go_ret
  exact ⟨rfl, by (repeat (first | exact Below.refl _ _ | assumption | refine Below.drew ?_ | refine Below.alloc ?_ (by first | exact Nat.le_refl _ | (simp; done) | (simp; omega)) _))⟩

set_option maxRecDepth 100000 in
set_option maxHeartbeats 4000000 in
theorem foundAt_any (p : Card) (cs : List Int) (v : Value) (w : World) (h : p.In w) (hs : Sl (Flat ints) 1 w v cs) (hn : cs.length ≤ 1048577) :
    Calls Try.prog 71 #[p.val, v] w fun e w' => ∃ r, e = .returned r ∧ Row w.heap.size 3 1 w' r ((foundL p.k.punches cs).map ints) ∧ Below w.heap.size w w' := by
  have hpl := h.len
  obtain ⟨⟨r0, r1, r2, sp⟩, A, n, c⟩ := p
  have hsp : Sl (Flat Punch.lst) 2 w (.slice A n c) sp := h
  simp only at hpl
  subst hpl
  obtain ⟨A', c', hv, hc, hm, _⟩ := hsp.open_
  simp only [Value.slice.injEq] at hv
  obtain ⟨rfl, _, rfl⟩ := hv
  obtain ⟨B, d, rfl, hd, hdm, hk⟩ := hs.open_
  have hcn := Card.cellsNew w ⟨⟨r0, r1, r2, sp⟩, A, sp.length, c⟩ 51
  simp only at hcn
  have HCN := Lib.hid (fun s => (hcn s).2.2.2)
  have HW := Lib.hid (show Below w.heap.size w (w.alloc (.cells #[.int .i64 r0, .int .i64 r1, .int .i64 r2, .slice A sp.length c] 51)) from below_alloc (Below.refl _ _) _)
  have HSP := Lib.hid hsp
  show Calls Try.prog 71 #[.agg #[.int .i64 r0, .int .i64 r1, .int .i64 r2, .slice A sp.length c], .slice B cs.length d] w fun e w' => ∃ r, e = .returned r ∧ Row w.heap.size 3 1 w' r ((foundL sp cs).map ints) ∧ Below w.heap.size w w'
  clear h hs hsp hcn
  go_enter Try.func71, Try.ntmps71
  go_wp2_with fail
  have hsz : (w.alloc (.cells #[.int .i64 r0, .int .i64 r1, .int .i64 r2, .slice A sp.length c] 51)).heap.size = w.heap.size + 1 := by simp
  generalize w.alloc (.cells #[.int .i64 r0, .int .i64 r1, .int .i64 r2, .slice A sp.length c] 51) = W at HCN HW hsz ⊢
  have own0 : Own W 3 1 (W.alloc (.cells #[] 3)) (.slice (some ⟨w.heap.size + 1, 0, none⟩) 0 0) [] := Own.nil (Below.refl _ _) _ hsz
  clear hsz
  go_loopw [5, 6, 13] (fun o nx i wr => ∃ k q : Nat, k ≤ cs.length ∧ i = .int .i64 k ∧ nx = .int .i64 q ∧ q ≤ sp.length ∧ Hid (q = (foundS sp (cs.take k)).2) ∧ Own W 3 1 wr o ((foundS sp (cs.take k)).1.map ints))
    (fun _ _ i _ => cs.length - (intOf i).toNat)
  case atStart => exact ⟨0, 0, Nat.zero_le _, rfl, rfl, Nat.zero_le _, rfl, own0⟩
  case round =>
    clear own0
    obtain ⟨k, q, hkl, rfl, rfl, hql, HQ, own⟩ := hrel
    by_cases hlt : k < cs.length
    · obtain ⟨b, off, rfl, hat⟩ := flat_at hk (by omega)
      have hr := int_at (rangeAt_below (hat k hlt) (step_ HW.out (Nat.le_refl _) own.2))
      rw [Nat.mul_one] at hr
      have hst := found_step sp cs k hlt
      have HLL := Lib.hid (show ((foundS sp (cs.take k)).1.map ints).length + 1 ≤ 2147483648 by rw [List.length_map, (found_inv sp cs k hkl).1]; omega)
      obtain ⟨st, hst'⟩ : ∃ st, st = foundS sp (cs.take k) := ⟨_, rfl⟩
      rw [← hst'] at hst HLL HQ own
      obtain ⟨fo, fn⟩ := st
      have hqe : q = fn := HQ.out
      subst hqe
      obtain ⟨x, hx⟩ : ∃ x, x = cs[k] := ⟨_, rfl⟩
      rw [← hx] at hr hst
      have HST := Lib.hid hst
      have HOW := Lib.hid own
      have HC1 := Lib.hid (show wr.cell? ⟨w.heap.size, 3, none⟩ = some (.slice A sp.length c) from HCN.out ⟨wr, own.2⟩)
      have hal : ∀ u, Below wr.heap.size wr (wr.alloc (.cells #[.int .i64 u] 3)) := fun u => below_alloc (Below.refl _ _) _
      have hbx : (wr.alloc (.cells #[.int .i64 x] 3)).cell? ⟨wr.heap.size, 0, none⟩ = some (.int .i64 x) := rangeAt_new wr [.int .i64 x] 3 0 _ rfl
      have hca : (wr.alloc (.cells #[.int .i64 x] 3)).cell? ⟨w.heap.size, 3, none⟩ = some (.slice A sp.length c) := After.keep HC1.out ⟨_, hal x⟩
      have HIX := Lib.hid (indexFunc_108 (.pointer (some ⟨wr.heap.size, 0, none⟩)) (codeIs x) (sp.drop q) _ _ (Sl.cut (((HSP.out.below (Flat.keeps _) HW.out).below (Flat.keeps _) own.2).below (Flat.keeps _) (hal x)) hql) (fun s j _ => codeIs_any _ x _ _ (After.keep hbx s)))
      have HB1 := Lib.hid (hal x)
      clear hat hk hx hst hst' own hal HQ
      by_cases hcq : c = q
      case' pos =>
        have hqc : q = c := hcq.symm
        subst hqc
        have hl0 : sp.length - q = 0 := by omega
        rw [if_pos rfl, Nat.sub_self, hl0] at HIX
        clear hl0
      case' neg => rw [if_neg hcq] at HIX
      all_goals
        go_wp2_with fail
        with_reducible refine HIX.out.mono ?_
        rintro e w2 ⟨rfl, hb2⟩
        have HO2 := Lib.hid ((HOW.out.below HB1.out).below hb2)
        have hnx : nxtI sp q x = if idxA (codeIs x) (sp.drop q) < 0 then -1 else idxA (codeIs x) (sp.drop q) + q := rfl
        clear hbx hca
        rcases idxA_cases (codeIs x) (sp.drop q) with ⟨hi, _⟩ | ⟨i, hil, hi, _⟩
        · rw [hi] at hnx ⊢
          rw [if_pos (by omega)] at hnx
          have hs2 := HST.out
          unfold fstep at hs2
          simp only [hnx] at hs2
          rw [if_pos (by omega)] at hs2
          have HS2 := Lib.hid hs2
          clear hi hnx hs2 hb2
          go_wp2_with (at_builtin; refine tyInt.append rfl _ _ rfl W.heap.size _ _ rfl (HO2.out.alloc _).1 _ 1 1 [ints (-1)] rfl (Src.lit _ _ (ints (-1)) _ (by simp) rfl (ints_one _)) HLL.out (by simp; have := HO2.out.2.size; omega) ?_; intro o4 w4 hrow4 hg4 _)
          have HB4 := Lib.hid ((HO2.out.alloc (.cells #[.int .i64 (-1)] 3)).2.grown hg4 (HO2.out.alloc (.cells #[.int .i64 (-1)] 3)).2.size (fun q hq => (HO2.out.1.lt q hq).1))
          go_roundw
          case rel => exact ⟨k + 1, q, by omega, by go_num, rfl, hql, by show _ = _; rw [HS2.out], by rw [HS2.out]; simp only [List.map_append]; exact ⟨hrow4, HB4.out⟩⟩
          case measure => simp [intOf]; omega
        · rw [List.length_drop] at hil
          first
            | (exfalso; omega)
            | (rw [hi] at hnx ⊢
               rw [if_neg (by omega)] at hnx
               have hs2 := HST.out
               unfold fstep at hs2
               simp only [hnx] at hs2
               rw [if_neg (by omega)] at hs2
               have e1 : ((i : Int) + (q : Int) + 1).toNat = i + q + 1 := by omega
               rw [e1] at hs2
               have HS2 := Lib.hid hs2
               have hiq : i + q < sp.length := by omega
               clear hi hnx hs2 hb2 e1
               have HN := Lib.hid (show Row W.heap.size 3 1 (w2.alloc (.cells #[.int .i64 ((i : Int) + (q : Int))] 3)) _ (fo.map ints) from (HO2.out.alloc _).1)
               have HS := Lib.hid (Src.lit w2 3 (ints ((i : Int) + (q : Int))) _ rfl rfl (ints_one _))
               have HZ := Lib.hid (show W.heap.size ≤ (w2.alloc (.cells #[.int .i64 ((i : Int) + (q : Int))] 3)).heap.size by simp; have := HO2.out.2.size; omega)
               go_wp2_with (at_builtin; refine tyInt.append rfl _ _ rfl W.heap.size _ _ rfl HN.out _ 1 1 _ rfl HS.out HLL.out HZ.out ?_; intro o4 w4 hrow4 hg4 _)
               have HB4 := Lib.hid ((HO2.out.alloc (.cells #[.int .i64 ((i : Int) + (q : Int))] 3)).2.grown hg4 (HO2.out.alloc (.cells #[.int .i64 ((i : Int) + (q : Int))] 3)).2.size (fun q hq => (HO2.out.1.lt q hq).1))
               go_roundw
               case rel => exact ⟨k + 1, i + q + 1, by omega, by go_num, by go_num, by omega, by show _ = _; rw [HS2.out], by rw [HS2.out]; simp only [List.map_append]; exact ⟨hrow4, HB4.out⟩⟩
               case measure => simp [intOf]; omega)
    · go_wp2
      go_ret
      obtain rfl : k = cs.length := by omega
      rw [List.take_length] at own
      exact ⟨_, rfl, own.1.mono HW.out.size, step_ HW.out (Nat.le_refl _) own.2⟩

set_option maxRecDepth 100000 in
set_option maxHeartbeats 4000000 in
theorem missingCodes_any (p : Card) (cs : List Int) (v : Value) (w : World) (h : p.In w) (hs : Sl (Flat ints) 1 w v cs) (hn : cs.length ≤ 1048577) :
    Calls Try.prog 106 #[p.val, v] w fun e w' => ∃ r, e = .returned r ∧ Row w.heap.size 3 1 w' r ((missL p.k.punches cs).map ints) ∧ Below w.heap.size w w' := by
  obtain ⟨⟨r0, r1, r2, sp⟩, A, n, c⟩ := p
  have HP := Lib.hid (show Card.In w ⟨⟨r0, r1, r2, sp⟩, A, n, c⟩ from h)
  obtain ⟨B, d, rfl, hd, hdm, hk⟩ := hs.open_
  have HS := Lib.hid hs
  have hW : Below w.heap.size w (w.alloc (.cells #[.int .i64 r0, .int .i64 r1, .int .i64 r2, .slice A n c] 51)) := below_alloc (Below.refl _ _) _
  have hW2 : Below w.heap.size w ((w.alloc (.cells #[.int .i64 r0, .int .i64 r1, .int .i64 r2, .slice A n c] 51)).alloc (.cells #[] 3)) := below_alloc hW _
  have hrn := rangeAt_below (Card.rangeNew w ⟨⟨r0, r1, r2, sp⟩, A, n, c⟩ 51) (below_alloc (Below.refl _ _) (.cells #[] 3))
  have own0 : Own w 3 1 ((w.alloc (.cells #[.int .i64 r0, .int .i64 r1, .int .i64 r2, .slice A n c] 51)).alloc (.cells #[] 3)) (.slice (some ⟨w.heap.size + 1, 0, none⟩) 0 0) [] := Own.nil hW _ (by simp)
  have HW2 := Lib.hid hW2
  have HO0 := Lib.hid own0
  show Calls Try.prog 106 #[.agg #[.int .i64 r0, .int .i64 r1, .int .i64 r2, .slice A n c], .slice B cs.length d] w fun e w' => ∃ r, e = .returned r ∧ Row w.heap.size 3 1 w' r ((missN cs (foundL sp cs)).map ints) ∧ Below w.heap.size w w'
  clear h hs hW hW2 own0
  go_enter Try.func106, Try.ntmps106
  go_wp2_with ((with_reducible refine at_load_ 51 ?_); refine Card.loadImpl rfl _ rfl w.heap.size 0 rfl _ hrn ?_)
  refine (foundAt_any ⟨⟨r0, r1, r2, sp⟩, A, n, c⟩ cs _ _ (HP.out.below HW2.out) (HS.out.below (Flat.keeps _) HW2.out) hn).mono ?_
  rintro e w1 ⟨f, rfl, row, hb1⟩
  have HO1 := Lib.hid (HO0.out.below hb1)
  have hfl := found_len sp cs
  simp only at row
  obtain ⟨fs, hfs⟩ : ∃ fs, fs = foundL sp cs := ⟨_, rfl⟩
  rw [← hfs] at row hfl
  obtain ⟨D, dc, rfl, hdc, hdcm⟩ := row.parts
  simp only [List.length_map] at row hdc ⊢
  rw [hfl] at row hdc ⊢
  have HFL := Lib.hid hfl
  have HLT := Lib.hid (show ∀ q, (Value.slice D cs.length dc).ownBlock = some q → w.heap.size + 2 ≤ q ∧ q < w1.heap.size from fun q hq => by have := row.lt q hq; simp at this; omega)
  have HN0 := Lib.hid (show (Value.slice D cs.length dc).ownBlock = none ∨ (Value.slice D cs.length dc).ownBlock ≠ (Value.slice (some ⟨w.heap.size + 1, 0, none⟩) 0 0).ownBlock from .inr (fun e => by
    have h1 := HLT.out (w.heap.size + 1) e
    omega))
  have HROW := Lib.hid row
  have HFS := Lib.hid hfs
  clear hfs row hrn hfl hb1
  go_wp2_with fail
  go_loopw [5, 13] (fun o i wr => ∃ (k : Nat) (B : Nat), k ≤ cs.length ∧ i = .int .i64 k ∧ w1.heap.size ≤ wr.heap.size ∧ Row B 3 1 wr (.slice D cs.length dc) (fs.map ints) ∧ Hid ((Value.slice D cs.length dc).ownBlock = none ∨ (Value.slice D cs.length dc).ownBlock ≠ o.ownBlock) ∧ Own w 3 1 wr o ((missN (cs.take k) (fs.take k)).map ints))
    (fun _ i _ => cs.length - (intOf i).toNat)
  case atStart => exact ⟨0, _, Nat.zero_le _, rfl, Nat.le_refl _, HROW.out, HN0.out, HO1.out⟩
  case round =>
    obtain ⟨k, Bf, hkl, rfl, hsz, hrow, HN, own⟩ := hrel
    by_cases hlt : k < cs.length
    · have hlf : k < fs.length := by rw [HFL.out]; exact hlt
      obtain ⟨b, off, rfl, hat⟩ := flat_at hk (by omega)
      have hsl := Sl.of_flat (enc := ints) hrow
      obtain ⟨D', dc', hv', _, _, hfk⟩ := hsl.open_
      simp only [Value.slice.injEq] at hv'
      obtain ⟨rfl, hve, rfl⟩ := hv'
      clear hve
      obtain ⟨b', off', rfl, hat'⟩ := flat_at hfk (by omega)
      have hr := int_at (rangeAt_below (hat k hlt) own.2)
      have hr' := int_at (hat' k hlf)
      rw [Nat.mul_one] at hr hr'
      have hst := miss_step cs fs k hlt hlf
      have HLL := Lib.hid (show ((missN (cs.take k) (fs.take k)).map ints).length + 1 ≤ 2147483648 by have := miss_len (cs.take k) (fs.take k); simp at *; omega)
      obtain ⟨cur, hcur⟩ : ∃ cur, cur = missN (cs.take k) (fs.take k) := ⟨_, rfl⟩
      rw [← hcur] at hst HLL own
      obtain ⟨x, hx⟩ : ∃ x, x = cs[k] := ⟨_, rfl⟩
      obtain ⟨y, hy⟩ : ∃ y, y = fs[k] := ⟨_, rfl⟩
      rw [← hx] at hr hst
      rw [← hy] at hr' hst
      have HOW := Lib.hid own
      have HRF := Lib.hid hrow
      clear hat hat' hk hfk hcur hx hy own hrow HO1 HO0 HN0 HROW hsl
      by_cases hy0 : y < 0
      · rw [if_pos hy0] at hst
        have HST := Lib.hid hst
        clear hst
        go_wp2_with (at_builtin; refine tyInt.append rfl _ _ rfl w.heap.size _ _ rfl (HOW.out.alloc _).1 _ 1 1 [ints x] rfl (Src.lit _ _ (ints x) _ (by simp) rfl (ints_one _)) HLL.out (by simp; have := HOW.out.2.size; omega) ?_; intro o4 w4 hrow4 hg4 hat4)
        have HB4 := Lib.hid ((HOW.out.alloc (.cells #[.int .i64 x] 3)).2.grown hg4 (HOW.out.alloc (.cells #[.int .i64 x] 3)).2.size (fun q hq => (HOW.out.1.lt q hq).1))
        have HR4 := Lib.hid (Row.kept (HRF.out.alloc (.cells #[.int .i64 x] 3)) hg4 HN.out)
        have hs4 : w1.heap.size ≤ w4.heap.size := Nat.le_trans hsz (Nat.le_trans (by simp) hg4.size)
        have HN4 := Lib.hid (show (Value.slice (some ⟨b', off', none⟩) cs.length dc).ownBlock = none ∨ (Value.slice (some ⟨b', off', none⟩) cs.length dc).ownBlock ≠ o4.ownBlock from by
          rcases hat4 with h | h
          · rw [h]; exact HN.out
          · refine .inr (fun e => ?_)
            rw [h] at e
            have h1 := (HLT.out _ e).2
            simp at h1
            omega)
        go_roundw
        case rel => exact ⟨k + 1, Bf, by omega, by go_num, hs4, HR4.out, HN4.out, by rw [HST.out, List.map_append]; exact ⟨hrow4, HB4.out⟩⟩
        case measure => simp [intOf]; omega
      · rw [if_neg hy0, List.append_nil] at hst
        have HST := Lib.hid hst
        clear hst
        go_wp2
        go_roundw
        case rel => exact ⟨k + 1, Bf, by omega, by go_num, hsz, HRF.out, HN.out, by rw [HST.out]; exact HOW.out⟩
        case measure => simp [intOf]; omega
    · go_wp2
      go_ret
      obtain rfl : k = cs.length := by omega
      rw [List.take_length, ← HFL.out, List.take_length] at own
      have HFE := HFS.out
      rw [← HFE]
      exact ⟨_, rfl, own.1, own.2⟩
end Go.Proofs.Ytojpklpfnmjikaa
