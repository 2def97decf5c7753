/- The walks of the leader at a place. -/
import Derived.Test.YtbeonigmcbipeaaLeadQ
namespace Go.Proofs.Ytbeonigmcbipeaa
open Go Go.RowKit

set_option maxHeartbeats 1000000 in
theorem splitOrder_any (xs : List Pas) (P : Nat) (v : Value) (w : World) (h : PasS w v xs) (hl : xs.length ≤ 10) (hgd : ∀ p ∈ xs, ∀ i, i < p.k.splits.length → 1 ≤ atP p.k i ∧ atP p.k i ≤ 36000) (h3 : P ≤ 3) :
    Calls Try.prog 63 #[v, .int .i64 P] w fun e w' => ∃ o, e = .returned o ∧ Row w.heap.size 49 2 w' o ((ordK (keyS P) P xs).map Pas.lst) ∧ Below w.heap.size w w' := by
  have hW : Below w.heap.size w (w.alloc (.cells #[.int .i64 P] 3)) := below_alloc (Below.refl _ _) _
  have hc : (w.alloc (.cells #[.int .i64 P] 3)).cell? ⟨w.heap.size, 0, none⟩ = some (.int .i64 P) := rangeAt_new w [.int .i64 P] 3 0 _ rfl
  go_enter Try.func63, Try.ntmps63
  go_wp2_with fail
  generalize w.alloc (.cells #[.int .i64 P] 3) = W at hW hc ⊢
  refine (orderAt_80 (keyS P) xs P rfl w.heap.size v W (h.below hW) hc hl hgd h3).mono ?_
  rintro e w1 ⟨o, rfl, row, hb⟩
  go_wp2
  go_ret
  exact ⟨_, rfl, row.mono hW.size, step_ hW (Nat.le_refl _) hb⟩
/-- What an order reads as: its passings still lie where they lay. -/
theorem PasS.of_row {w w' : World} {base : Nat} {o v : Value} {xs l : List Pas} (h : PasS w v xs) (hb : Below w.heap.size w w') (hr : Row base 49 2 w' o (l.map Pas.lst)) (hs : ∀ x ∈ l, x ∈ xs) : PasS w' o l :=
  ⟨Sl.of_flat hr, fun p hp => (h.2 p (hs p hp)).below hb⟩

set_option maxHeartbeats 1000000 in
theorem passingRunners_any (xs : List Pas) (v : Value) (w : World) (h : Sl (Flat Pas.lst) 2 w v xs) (hn : xs.length ≤ 1048577) :
    Calls Try.prog 67 #[v] w fun e w' => ∃ r, e = .returned r ∧ Row w.heap.size 3 1 w' r ((xs.map fun x => x.k.runner).map ints) ∧ Below w.heap.size w w' := by
  obtain ⟨A, c, rfl, hc, hm, hk⟩ := h.open_
  have ownN : Own w 3 1 (w.alloc (.cells #[] 3)) (.slice (some ⟨w.heap.size, 0, none⟩) 0 0) [] := Own.nil (Below.refl _ _) _ rfl
  clear h
  go_enter Try.func67, Try.ntmps67
  go_wp2
  go_loopw [3, 9] (fun s i wr => ∃ k : Nat, k ≤ xs.length ∧ i = .int .i64 k ∧ Own w 3 1 wr s (((xs.take k).map fun x => x.k.runner).map ints))
    (fun _ i _ => xs.length - (intOf i).toNat)
  case atStart => exact ⟨0, Nat.zero_le _, rfl, ownN⟩
  case round =>
    obtain ⟨k, hkl, rfl, own⟩ := hrel
    by_cases hlt : k < xs.length
    · obtain ⟨g, off, rfl, hat⟩ := flat_at hk (by omega)
      have hr := rangeAt_below (hat k hlt) own.2
      have HS := Lib.hid (show ((xs.take (k + 1)).map fun x => x.k.runner).map ints = ((xs.take k).map fun x => x.k.runner).map ints ++ [ints xs[k].k.runner] by rw [List.take_succ_eq_append_getElem hlt, List.map_append, List.map_append]; rfl)
      have HLL := Lib.hid (show (((xs.take k).map fun x => x.k.runner).map ints).length + 1 ≤ 2147483648 by simp; omega)
      obtain ⟨pl, hpl⟩ : ∃ pl, pl = ((xs.take k).map fun x => x.k.runner).map ints := ⟨_, rfl⟩
      rw [← hpl] at own HS HLL
      obtain ⟨x, hx⟩ : ∃ x, x = xs[k] := ⟨_, rfl⟩
      rw [← hx] at hr HS
      have hcn := Pas.cells (Pas.rangeNew wr x 49)
      simp only [Nat.zero_add] at hcn
      have HO2 := Lib.hid (own.alloc (.cells #[.int .i64 x.k.runner, .slice x.a x.n x.c] 49))
      clear hk hat hx hpl own
      go_wp2_with (first
        | ((with_reducible refine at_load_ 49 ?_); refine Pas.loadImpl rfl _ rfl g (off + k * 2) rfl x hr ?_)
        | (at_builtin; refine tyInt.append rfl _ _ rfl w.heap.size _ _ rfl (HO2.out.alloc _).1 _ 1 1 [ints x.k.runner] rfl (Src.lit _ _ (ints x.k.runner) _ (by simp) rfl (ints_one _)) HLL.out (by simp; have := HO2.out.2.size; simp at this; omega) ?_; intro o4 w4 hrow4 hg4 _))
      have HB4 := Lib.hid ((HO2.out.alloc (.cells #[.int .i64 x.k.runner] 3)).2.grown hg4 (HO2.out.alloc (.cells #[.int .i64 x.k.runner] 3)).2.size (fun q hq => (HO2.out.1.lt q hq).1))
      go_roundw
      case rel => exact ⟨k + 1, by omega, by go_num, by rw [HS.out]; exact ⟨hrow4, HB4.out⟩⟩
      case measure => simp [intOf]; omega
    · obtain rfl : k = xs.length := by omega
      rw [List.take_length] at own
      go_wp2
      go_ret
      exact ⟨_, rfl, own.1, own.2⟩

set_option maxRecDepth 100000 in
set_option maxHeartbeats 4000000 in
theorem l19Leader_any (xs : List Pas) (P : Nat) (v : Value) (w : World) (h : PasS w v xs) (h3 : P ≤ 3) :
    Calls Try.prog 62 #[v, .int .i64 P] w fun e w' => ∃ b, e = .returned (.int .i64 b) ∧ LeadI P xs xs b ∧ Below w.heap.size w w' := by
  have HI := Lib.hid h.2
  obtain ⟨A, c, rfl, hc, hm, hk⟩ := h.1.open_
  clear h
  go_enter Try.func62, Try.ntmps62
  go_wp2
  go_loopw [5, 6] (fun t j wr => ∃ (k : Nat) (b : Int), k ≤ xs.length ∧ j = .int .i64 k ∧ t = .int .i64 b ∧ Hid (LeadI P (xs.take k) xs b) ∧ Below w.heap.size w wr)
    (fun _ j _ => xs.length - (intOf j).toNat)
  case atStart => exact ⟨0, -1, Nat.zero_le _, rfl, rfl, .inl ⟨rfl, rfl⟩, Below.refl _ _⟩
  case round =>
    obtain ⟨k, bi, hkl, rfl, rfl, HL, hb⟩ := hrel
    by_cases hlt : k < xs.length
    · obtain ⟨b, off, rfl, hat⟩ := flat_at hk (by omega)
      have HAT := Lib.hid hat
      have hcy := Pas.cellsOld (rangeAt_below (hat k hlt) hb)
      have HYN := Lib.hid ((HI.out _ (List.getElem_mem hlt)).below hb)
      have HM := Lib.hid (ordK_head (keyS P) P xs k hlt)
      have HE := Lib.hid (ordK_take (keyS P) P xs k hlt)
      have HXK := Lib.hid (show ∀ z, z = xs[k] → ∃ i, ∃ h : i < xs.length, (k : Int) = (i : Int) ∧ some z = some xs[i] from fun z hz => ⟨k, hlt, rfl, by rw [hz]⟩)
      obtain ⟨y, hy⟩ : ∃ y, y = xs[k] := ⟨_, rfl⟩
      rw [← hy] at hcy HYN HM HE
      have HXK := Lib.hid hy
      have hyl := HYN.out.len
      have HB := Lib.hid hb
      clear hy hb hat hk
      obtain ⟨⟨ry, sy⟩, Ay, ny, cy⟩ := y
      simp only at hyl hcy
      subst hyl
      by_cases hPy : P < sy.length
      · obtain ⟨by_, oy, hay, hsy⟩ := Pas.look HYN.out (P := P) hPy
        simp only at hay hsy
        subst hay
        have HMM := Lib.hid (HM.out (by simpa [wasAt] using hPy))
        rcases HL.out with ⟨hn, rfl⟩ | ⟨i, hi, rfl, hhd, hPi⟩
        · have HN := Lib.hid (show LeadI P (xs.take (k + 1)) xs k from .inr ⟨k, hlt, rfl, by rw [HMM.out, hn, HXK.out], by rw [← HXK.out]; exact hPy⟩)
          clear hn
          go_wp2
          refine region_after (by kernel_rfl) (by kernel_rfl) ?_
          repeat (any_goals (first | go_big_quiet_step (fail)  | quiet_step (fail)))
          refine wpQuiet_nil ?_
          intro s
          go_wp2
          go_roundw
          case rel => exact ⟨k + 1, k, by omega, by go_num, rfl, HN.out, step_ HB.out (Nat.le_refl _) s.hb⟩
          case measure => simp [intOf]; omega
        · have hci := Pas.cellsOld (rangeAt_below (HAT.out i hi) HB.out)
          have HIN := Lib.hid ((HI.out _ (List.getElem_mem hi)).below HB.out)
          have HXI := Lib.hid (show LeadI P (xs.take (k + 1)) xs i ↔ ¬ atP ⟨ry, sy⟩ P < atP xs[i].k P ∨ (xs[k] = xs[i]) by
            constructor
            · intro hl
              by_cases e : atP ⟨ry, sy⟩ P < atP xs[i].k P
              · right
                rcases hl with ⟨h1, _⟩ | ⟨i', h1, h2, h3', _⟩
                · rw [HMM.out, hhd] at h1; simp [keyS, e] at h1
                · rw [HMM.out, hhd] at h3'
                  simp only [keyS, e, if_true, Option.some.injEq] at h3'
                  obtain rfl : i = i' := by omega
                  rw [← HXK.out]; exact h3'
              · exact .inl e
            · intro hl
              by_cases e : atP ⟨ry, sy⟩ P < atP xs[i].k P
              · rcases hl with hl | hl
                · exact absurd e hl
                · rw [← hl, ← HXK.out] at e; simp at e
              · exact .inr ⟨i, hi, rfl, by rw [HMM.out, hhd]; simp [keyS, e], hPi⟩)
          have HNK := Lib.hid (show atP ⟨ry, sy⟩ P < atP xs[i].k P → LeadI P (xs.take (k + 1)) xs k from fun e => .inr ⟨k, hlt, rfl, by rw [HMM.out, hhd]; simp only [keyS, e, if_true]; rw [HXK.out], by rw [← HXK.out]; exact hPy⟩)
          have HNI := Lib.hid (show ¬ atP ⟨ry, sy⟩ P < atP xs[i].k P → LeadI P (xs.take (k + 1)) xs i from fun e => HXI.out.2 (.inl e))
          obtain ⟨x, hx⟩ : ∃ x, x = xs[i] := ⟨_, rfl⟩
          rw [← hx] at hci HIN HNK HNI hPi
          have hxl := HIN.out.len
          clear hhd hx HXI HMM
          obtain ⟨⟨rx, sx⟩, Ax, nx, cx⟩ := x
          simp only at hxl hci hPi HNK HNI
          subst hxl
          obtain ⟨bx, ox, hax, hsx⟩ := Pas.look HIN.out (P := P) hPi
          simp only at hax hsx
          subst hax
          obtain ⟨t, ht⟩ : ∃ t, t = atP ⟨ry, sy⟩ P := ⟨_, rfl⟩
          obtain ⟨u, hu⟩ : ∃ u, u = atP ⟨rx, sx⟩ P := ⟨_, rfl⟩
          rw [← ht] at hsy HNK HNI
          rw [← hu] at hsx HNK HNI
          have hi0 : ¬ ((i : Int) < 0) := by omega
          clear ht hu
          go_wp2
          refine region_after (by kernel_rfl) (by kernel_rfl) ?_
          repeat (any_goals (first | go_big_quiet_step (fail)  | quiet_step (fail) | (refine wpQuiet_step (fun K hK => ?_); go_simp; split <;> (refine hK _ ?_; clear hK K))))
          all_goals (refine wpQuiet_nil ?_; intro s)
          all_goals go_wp2
          all_goals
            go_roundw
            case rel => first | exact ⟨k + 1, k, by omega, by go_num, rfl, HNK.out (by omega), step_ HB.out (Nat.le_refl _) s.hb⟩ | exact ⟨k + 1, i, by omega, by go_num, rfl, HNI.out (by omega), step_ HB.out (Nat.le_refl _) s.hb⟩
            case measure => simp [intOf]; omega
      · have HN := Lib.hid (show LeadI P (xs.take (k + 1)) xs bi by
          have h1 := HL.out
          unfold LeadI at h1 ⊢
          rw [HE.out, if_neg (by simp [wasAt]; omega)]
          exact h1)
        go_wp2
        refine region_after (by kernel_rfl) (by kernel_rfl) ?_
        repeat (any_goals (first | go_big_quiet_step (fail)  | quiet_step (fail)))
        refine wpQuiet_nil ?_
        intro s
        go_wp2
        go_roundw
        case rel => exact ⟨k + 1, bi, by omega, by go_num, rfl, HN.out, step_ HB.out (Nat.le_refl _) s.hb⟩
        case measure => simp [intOf]; omega
    · obtain rfl : k = xs.length := by omega
      have HF := Lib.hid (show LeadI P xs xs bi by have := HL.out; rwa [List.take_length] at this)
      go_wp2
      go_ret
      exact ⟨_, rfl, HF.out, hb⟩
end Go.Proofs.Ytbeonigmcbipeaa
