/- The walks of the searches on a card, of the reference. No condition. -/
import Derived.Test.YtojpklpfnmjikaaFo
namespace Go.Proofs.Ytojpklpfnmjikaa
open Go Go.RowKit

set_option maxRecDepth 100000 in
set_option maxHeartbeats 8000000 in
theorem l12Found_any (p : Card) (cs : List Int) (v : Value) (w : World) (h : p.In w) (hs : Sl (Flat ints) 1 w v cs) (hn : cs.length ≤ 1048577) :
    Calls Try.prog 70 #[p.val, v] w fun e w' => ∃ r, e = .returned r ∧ Row w.heap.size 3 1 w' r ((foundL p.k.punches cs).map ints) ∧ Below w.heap.size w w' := by
  have hpl := h.len
  obtain ⟨⟨r0, r1, r2, sp⟩, A, n, c⟩ := p
  have hsp : Sl (Flat Punch.lst) 2 w (.slice A n c) sp := h
  simp only at hpl
  subst hpl
  obtain ⟨A', c', hv, hc, hm, hpk⟩ := hsp.open_
  simp only [Value.slice.injEq] at hv
  obtain ⟨rfl, _, rfl⟩ := hv
  obtain ⟨B, d, rfl, hd, hdm, hk⟩ := hs.open_
  have hcn := Card.cellsNew w ⟨⟨r0, r1, r2, sp⟩, A, sp.length, c⟩ 51
  simp only at hcn
  have HCN := Lib.hid (fun s => (hcn s).2.2.2)
  have HW := Lib.hid (show Below w.heap.size w (w.alloc (.cells #[.int .i64 r0, .int .i64 r1, .int .i64 r2, .slice A sp.length c] 51)) from below_alloc (Below.refl _ _) _)
  show Calls Try.prog 70 #[.agg #[.int .i64 r0, .int .i64 r1, .int .i64 r2, .slice A sp.length c], .slice B cs.length d] w fun e w' => ∃ r, e = .returned r ∧ Row w.heap.size 3 1 w' r ((foundL sp cs).map ints) ∧ Below w.heap.size w w'
  clear h hs hsp hcn
  go_enter Try.func70, Try.ntmps70
  go_wp2_with fail
  have hsz : (w.alloc (.cells #[.int .i64 r0, .int .i64 r1, .int .i64 r2, .slice A sp.length c] 51)).heap.size = w.heap.size + 1 := by simp
  generalize w.alloc (.cells #[.int .i64 r0, .int .i64 r1, .int .i64 r2, .slice A sp.length c] 51) = W at HCN HW hsz ⊢
  have own0 : Own W 3 1 (W.alloc (.cells #[] 3)) (.slice (some ⟨w.heap.size + 1, 0, none⟩) 0 0) [] := Own.nil (Below.refl _ _) _ hsz
  clear hsz
  go_loopw [5, 6, 7] (fun o nx i wr => ∃ k q : Nat, k ≤ cs.length ∧ i = .int .i64 k ∧ nx = .int .i64 q ∧ q ≤ sp.length ∧ Hid (q = (foundS sp (cs.take k)).2) ∧ Own W 3 1 wr o ((foundS sp (cs.take k)).1.map ints))
    (fun _ _ i _ => cs.length - (intOf i).toNat)
  case atStart => exact ⟨0, 0, Nat.zero_le _, rfl, rfl, Nat.zero_le _, rfl, own0⟩
  case round =>
    clear own0
    obtain ⟨k, q, hkl, rfl, rfl, hql, HQ, own⟩ := hrel
    by_cases hlt : k < cs.length
    · obtain ⟨b, off, rfl, hat⟩ := flat_at hk (by omega)
      have hr := int_at (rangeAt_below (hat k hlt) (step_ HW.out (Nat.le_refl _) own.2))
      rw [Nat.mul_one] at hr
      have hst := found_step sp cs k hlt
      have HLL := Lib.hid (show ((foundS sp (cs.take k)).1.map ints).length + 1 ≤ 2147483648 by rw [List.length_map, (found_inv sp cs k hkl).1]; omega)
      obtain ⟨st, hst'⟩ : ∃ st, st = foundS sp (cs.take k) := ⟨_, rfl⟩
      rw [← hst'] at hst HLL HQ own
      obtain ⟨fo, fn⟩ := st
      have hqe : q = fn := HQ.out
      subst hqe
      obtain ⟨x, hx⟩ : ∃ x, x = cs[k] := ⟨_, rfl⟩
      rw [← hx] at hr hst
      have HST := Lib.hid hst
      have HOW := Lib.hid own
      have HR := Lib.hid hr
      clear hat hk hx hst hst' own HQ hr
      go_wp2_with fail
      go_loopw [8, 6, 9] (fun at_ fr i wx => ∃ (z : Nat) (a f : Int), i = .int .i64 z ∧ at_ = .int .i64 a ∧ fr = .int .i64 f ∧ Hid (InP sp q x z a f) ∧ Own W 3 1 wx u5 (fo.map ints) ∧ Below wr.heap.size wr wx)
        (fun _ _ i _ => sp.length + 1 - (intOf i).toNat)
      case atStart => exact ⟨q, -1, q, rfl, rfl, rfl, .inl ⟨rfl, rfl, Nat.le_refl _, hql, fun j _ h1 h2 => absurd h2 (by omega)⟩, HOW.out, Below.refl _ _⟩
      case round =>
        obtain ⟨z, a, f, rfl, rfl, rfl, HIN, own, hbx⟩ := hrel
        have hcc := HCN.out ⟨wr, own.2⟩
        simp only at hcc
        rcases HIN.out with ⟨rfl, rfl, hqz, hzl, hno⟩ | ⟨i, hil, rfl, rfl, rfl, hnx⟩
        · by_cases hz : z < sp.length
          · obtain ⟨pb, po, rfl, pat⟩ := flat_at hpk (by omega)
            have hpc := Punch.cellsOld (rangeAt_below (rangeAt_below (pat z hz) HW.out) own.2)
            have hrx := After.keep HR.out ⟨wr, hbx⟩
            have hrs : ∀ s : After wr, s.w'.cell? ⟨b, off + k, none⟩ = some (.int .i64 x) := fun s => After.keep HR.out ⟨s.w', step_ hbx (Nat.le_refl _) s.hb⟩
            have hccs : ∀ s : After wr, s.w'.cell? ⟨w.heap.size, 3, none⟩ = some (.slice (some ⟨pb, po, none⟩) sp.length c) := fun s => HCN.out ⟨s.w', step_ own.2 (Nat.le_refl _) s.hb⟩
            have HNO := Lib.hid hno
            obtain ⟨y, hy⟩ : ∃ y, y = sp[z] := ⟨_, rfl⟩
            rw [← hy] at hpc
            have HY := Lib.hid (show codeIs x sp[z] = (y.code == x) by rw [← hy]; rfl)
            have HOX := Lib.hid own
            have HBX := Lib.hid hbx
            clear pat hy hno own hbx hrx
            by_cases hyx : y.code = x
            · have hyx' : (y.code == x) = true := by simpa using hyx
              have HF := Lib.hid (nxt_found hz hqz (by rw [HY.out]; exact hyx') HNO.out)
              clear hyx
              go_wp2
              refine region_after (by kernel_rfl) (by kernel_rfl) ?_
              repeat (any_goals (first | go_big_quiet_step (fail)  | quiet_step (fail)))
              refine wpQuiet_nil ?_
              intro s
              go_wp2
              go_roundw
              case rel => exact ⟨z + 1, z, z + 1, by go_num, rfl, by go_num, .inr ⟨z, hz, rfl, rfl, rfl, HF.out⟩, HOX.out.below s.hb, step_ HBX.out (Nat.le_refl _) s.hb⟩
              case measure => simp [intOf]; omega
            · have hyx' : (y.code == x) = false := by simpa using hyx
              have HF := Lib.hid (show ∀ j (h : j < sp.length), q ≤ j → j < z + 1 → codeIs x sp[j] = false from fun j hj h1 h2 => by
                by_cases e : j < z
                · exact HNO.out j hj h1 e
                · obtain rfl : j = z := by omega
                  rw [HY.out]; exact hyx')
              clear hyx
              go_wp2
              refine region_after (by kernel_rfl) (by kernel_rfl) ?_
              repeat (any_goals (first | go_big_quiet_step (fail)  | quiet_step (fail)))
              refine wpQuiet_nil ?_
              intro s
              go_wp2
              go_roundw
              case rel => exact ⟨z + 1, -1, q, by go_num, rfl, rfl, .inl ⟨rfl, rfl, by omega, by omega, HF.out⟩, HOX.out.below s.hb, step_ HBX.out (Nat.le_refl _) s.hb⟩
              case measure => simp [intOf]; omega
          · have hzz : ¬ (z : Int) < (sp.length : Int) := by omega
            have hnx := nxt_none (fun j hj h1 => hno j hj h1 (by omega))
            have hs2 := HST.out
            unfold fstep at hs2
            simp only [hnx] at hs2
            rw [if_pos (by omega)] at hs2
            have HS2 := Lib.hid hs2
            have HOX := Lib.hid own
            clear hnx hs2 hno own hbx hz
            go_wp2_with (at_builtin; refine tyInt.append rfl _ _ rfl W.heap.size _ _ rfl (HOX.out.alloc _).1 _ 1 1 [ints (-1)] rfl (Src.lit _ _ (ints (-1)) _ (by simp) rfl (ints_one _)) HLL.out (by simp; have := HOX.out.2.size; omega) ?_; intro o4 w4 hrow4 hg4 _)
            have HB4 := Lib.hid ((HOX.out.alloc (.cells #[.int .i64 (-1)] 3)).2.grown hg4 (HOX.out.alloc (.cells #[.int .i64 (-1)] 3)).2.size (fun q hq => (HOX.out.1.lt q hq).1))
            go_roundw
            case rel => exact ⟨k + 1, q, by omega, by go_num, rfl, hql, by show _ = _; rw [HS2.out], by rw [HS2.out]; simp only [List.map_append]; exact ⟨hrow4, HB4.out⟩⟩
            case measure => simp [intOf]; omega
        · have hs2 := HST.out
          unfold fstep at hs2
          simp only [hnx] at hs2
          rw [if_neg (by omega)] at hs2
          have e1 : ((i : Int) + 1).toNat = i + 1 := by omega
          rw [e1] at hs2
          have HS2 := Lib.hid hs2
          have HOX := Lib.hid own
          have hi0 : ¬ ((i : Int) < 0) := by omega
          clear hnx hs2 own hbx e1
          by_cases hi1 : i + 1 < sp.length
          all_goals
            go_wp2_with (at_builtin; refine tyInt.append rfl _ _ rfl W.heap.size _ _ rfl (HOX.out.alloc _).1 _ 1 1 [ints (i : Int)] rfl (Src.lit _ _ (ints (i : Int)) _ (by simp) rfl (ints_one _)) HLL.out (by simp; have := HOX.out.2.size; omega) ?_; intro o4 w4 hrow4 hg4 _)
            have HB4 := Lib.hid ((HOX.out.alloc (.cells #[.int .i64 (i : Int)] 3)).2.grown hg4 (HOX.out.alloc (.cells #[.int .i64 (i : Int)] 3)).2.size (fun q hq => (HOX.out.1.lt q hq).1))
            go_roundw
            case rel => exact ⟨k + 1, i + 1, by omega, by go_num, by go_num, by omega, by show _ = _; rw [HS2.out], by rw [HS2.out]; simp only [List.map_append]; exact ⟨hrow4, HB4.out⟩⟩
            case measure => simp [intOf]; omega
    · go_wp2
      go_ret
      obtain rfl : k = cs.length := by omega
      rw [List.take_length] at own
      exact ⟨_, rfl, own.1.mono HW.out.size, step_ HW.out (Nat.le_refl _) own.2⟩

set_option maxRecDepth 100000 in
set_option maxHeartbeats 4000000 in
theorem l12Missing_any (p : Card) (cs : List Int) (v : Value) (w : World) (h : p.In w) (hs : Sl (Flat ints) 1 w v cs) (hn : cs.length ≤ 1048577) :
    Calls Try.prog 104 #[p.val, v] w fun e w' => ∃ r, e = .returned r ∧ Row w.heap.size 3 1 w' r ((missL p.k.punches cs).map ints) ∧ Below w.heap.size w w' := by
  obtain ⟨⟨r0, r1, r2, sp⟩, A, n, c⟩ := p
  have HP := Lib.hid (show Card.In w ⟨⟨r0, r1, r2, sp⟩, A, n, c⟩ from h)
  obtain ⟨B, d, rfl, hd, hdm, hk⟩ := hs.open_
  have HS := Lib.hid hs
  have hW : Below w.heap.size w (w.alloc (.cells #[.int .i64 r0, .int .i64 r1, .int .i64 r2, .slice A n c] 51)) := below_alloc (Below.refl _ _) _
  have hW2 : Below w.heap.size w ((w.alloc (.cells #[.int .i64 r0, .int .i64 r1, .int .i64 r2, .slice A n c] 51)).alloc (.cells #[] 3)) := below_alloc hW _
  have hrn := rangeAt_below (Card.rangeNew w ⟨⟨r0, r1, r2, sp⟩, A, n, c⟩ 51) (below_alloc (Below.refl _ _) (.cells #[] 3))
  have own0 : Own w 3 1 ((w.alloc (.cells #[.int .i64 r0, .int .i64 r1, .int .i64 r2, .slice A n c] 51)).alloc (.cells #[] 3)) (.slice (some ⟨w.heap.size + 1, 0, none⟩) 0 0) [] := Own.nil hW _ (by simp)
  have HW2 := Lib.hid hW2
  have HO0 := Lib.hid own0
  show Calls Try.prog 104 #[.agg #[.int .i64 r0, .int .i64 r1, .int .i64 r2, .slice A n c], .slice B cs.length d] w fun e w' => ∃ r, e = .returned r ∧ Row w.heap.size 3 1 w' r ((missN cs (foundL sp cs)).map ints) ∧ Below w.heap.size w w'
  clear h hs hW hW2 own0
  go_enter Try.func104, Try.ntmps104
  go_wp2_with ((with_reducible refine at_load_ 51 ?_); refine Card.loadImpl rfl _ rfl w.heap.size 0 rfl _ hrn ?_)
  refine (l12Found_any ⟨⟨r0, r1, r2, sp⟩, A, n, c⟩ cs _ _ (HP.out.below HW2.out) (HS.out.below (Flat.keeps _) HW2.out) hn).mono ?_
  rintro e w1 ⟨f, rfl, row, hb1⟩
  have HO1 := Lib.hid (HO0.out.below hb1)
  have hfl := found_len sp cs
  simp only at row
  obtain ⟨fs, hfs⟩ : ∃ fs, fs = foundL sp cs := ⟨_, rfl⟩
  rw [← hfs] at row hfl
  obtain ⟨D, dc, rfl, hdc, hdcm⟩ := row.parts
  simp only [List.length_map] at row hdc ⊢
  rw [hfl] at row hdc ⊢
  have HFL := Lib.hid hfl
  have HLT := Lib.hid (show ∀ q, (Value.slice D cs.length dc).ownBlock = some q → w.heap.size + 2 ≤ q ∧ q < w1.heap.size from fun q hq => by have := row.lt q hq; simp at this; omega)
  have HN0 := Lib.hid (show (Value.slice D cs.length dc).ownBlock = none ∨ (Value.slice D cs.length dc).ownBlock ≠ (Value.slice (some ⟨w.heap.size + 1, 0, none⟩) 0 0).ownBlock from .inr (fun e => by
    have h1 := HLT.out (w.heap.size + 1) e
    omega))
  have HROW := Lib.hid row
  have HFS := Lib.hid hfs
  clear hfs row hrn hfl hb1
  go_wp2_with fail
  go_loopw [5, 7] (fun o i wr => ∃ (k : Nat) (B : Nat), k ≤ cs.length ∧ i = .int .i64 k ∧ w1.heap.size ≤ wr.heap.size ∧ Row B 3 1 wr (.slice D cs.length dc) (fs.map ints) ∧ Hid ((Value.slice D cs.length dc).ownBlock = none ∨ (Value.slice D cs.length dc).ownBlock ≠ o.ownBlock) ∧ Own w 3 1 wr o ((missN (cs.take k) (fs.take k)).map ints))
    (fun _ i _ => cs.length - (intOf i).toNat)
  case atStart => exact ⟨0, _, Nat.zero_le _, rfl, Nat.le_refl _, HROW.out, HN0.out, HO1.out⟩
  case round =>
    obtain ⟨k, Bf, hkl, rfl, hsz, hrow, HN, own⟩ := hrel
    by_cases hlt : k < cs.length
    · have hlf : k < fs.length := by rw [HFL.out]; exact hlt
      obtain ⟨b, off, rfl, hat⟩ := flat_at hk (by omega)
      have hsl := Sl.of_flat (enc := ints) hrow
      obtain ⟨D', dc', hv', _, _, hfk⟩ := hsl.open_
      simp only [Value.slice.injEq] at hv'
      obtain ⟨rfl, hve, rfl⟩ := hv'
      clear hve
      obtain ⟨b', off', rfl, hat'⟩ := flat_at hfk (by omega)
      have hr := int_at (rangeAt_below (hat k hlt) own.2)
      have hr' := int_at (hat' k hlf)
      rw [Nat.mul_one] at hr hr'
      have hst := miss_step cs fs k hlt hlf
      have HLL := Lib.hid (show ((missN (cs.take k) (fs.take k)).map ints).length + 1 ≤ 2147483648 by have := miss_len (cs.take k) (fs.take k); simp at *; omega)
      obtain ⟨cur, hcur⟩ : ∃ cur, cur = missN (cs.take k) (fs.take k) := ⟨_, rfl⟩
      rw [← hcur] at hst HLL own
      obtain ⟨x, hx⟩ : ∃ x, x = cs[k] := ⟨_, rfl⟩
      obtain ⟨y, hy⟩ : ∃ y, y = fs[k] := ⟨_, rfl⟩
      rw [← hx] at hr hst
      rw [← hy] at hr' hst
      have HOW := Lib.hid own
      have HRF := Lib.hid hrow
      clear hat hat' hk hfk hcur hx hy own hrow HO1 HO0 HN0 HROW hsl
      by_cases hy0 : y < 0
      · rw [if_pos hy0] at hst
        have HST := Lib.hid hst
        clear hst
        go_wp2_with (at_builtin; refine tyInt.append rfl _ _ rfl w.heap.size _ _ rfl (HOW.out.alloc _).1 _ 1 1 [ints x] rfl (Src.lit _ _ (ints x) _ (by simp) rfl (ints_one _)) HLL.out (by simp; have := HOW.out.2.size; omega) ?_; intro o4 w4 hrow4 hg4 hat4)
        have HB4 := Lib.hid ((HOW.out.alloc (.cells #[.int .i64 x] 3)).2.grown hg4 (HOW.out.alloc (.cells #[.int .i64 x] 3)).2.size (fun q hq => (HOW.out.1.lt q hq).1))
        have HR4 := Lib.hid (Row.kept (HRF.out.alloc (.cells #[.int .i64 x] 3)) hg4 HN.out)
        have hs4 : w1.heap.size ≤ w4.heap.size := Nat.le_trans hsz (Nat.le_trans (by simp) hg4.size)
        have HN4 := Lib.hid (show (Value.slice (some ⟨b', off', none⟩) cs.length dc).ownBlock = none ∨ (Value.slice (some ⟨b', off', none⟩) cs.length dc).ownBlock ≠ o4.ownBlock from by
          rcases hat4 with h | h
          · rw [h]; exact HN.out
          · refine .inr (fun e => ?_)
            rw [h] at e
            have h1 := (HLT.out _ e).2
            simp at h1
            omega)
        go_roundw
        case rel => exact ⟨k + 1, Bf, by omega, by go_num, hs4, HR4.out, HN4.out, by rw [HST.out, List.map_append]; exact ⟨hrow4, HB4.out⟩⟩
        case measure => simp [intOf]; omega
      · rw [if_neg hy0, List.append_nil] at hst
        have HST := Lib.hid hst
        clear hst
        go_wp2
        go_roundw
        case rel => exact ⟨k + 1, Bf, by omega, by go_num, hsz, HRF.out, HN.out, by rw [HST.out]; exact HOW.out⟩
        case measure => simp [intOf]; omega
    · go_wp2
      go_ret
      obtain rfl : k = cs.length := by omega
      rw [List.take_length, ← HFL.out, List.take_length] at own
      have HFE := HFS.out
      rw [← HFE]
      exact ⟨_, rfl, own.1, own.2⟩
end Go.Proofs.Ytojpklpfnmjikaa
