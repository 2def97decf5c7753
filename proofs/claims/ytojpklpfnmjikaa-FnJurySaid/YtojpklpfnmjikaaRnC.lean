/- The walks of the copies of runs. No condition. -/
import Derived.Test.YtojpklpfnmjikaaRnM
import Derived.Test.YtojpklpfnmjikaaCdC
namespace Go.Proofs.Ytojpklpfnmjikaa
open Go Go.RowKit

theorem Row.setOther {base : Nat} {e : TypeId} {sz : Nat} {w : World} {v : Value} {ys : List (List Value)} (h : Row base e sz w v ys) {q o : Nat} (hq : q < base) (u : Value) : Row base e sz (w.setCell ⟨q, o, none⟩ u) v ys :=
  ⟨h.1, ownsRow_setCell_other h.2 (fun e => by have := (h.lt q e).1; omega) _⟩
set_option maxRecDepth 100000 in
set_option maxHeartbeats 4000000 in
theorem newRuns_any (xs : List Run) (v : Value) (w : World) (h : RunS w v xs) (hn : xs.length ≤ 1048577) (hp : ∀ p ∈ xs, p.card.k.punches.length ≤ 1048577) :
    Calls Try.prog 59 #[v] w fun e w' => ∃ v' zs, e = .returned v' ∧ zs.map Run.k = xs.map Run.k ∧ RunR w.heap.size w' v' zs ∧ Below w.heap.size w w' := by
  have HI := Lib.hid h.2
  have HP := Lib.hid hp
  obtain ⟨A, c, rfl, hc, hm, hk⟩ := h.1.open_
  clear h hp
  go_enter Try.func59, Try.ntmps59
  go_wp2
  have hr0 : RunR w.heap.size (w.alloc (.cells #[] 53)) (.slice (some ⟨w.heap.size, 0, none⟩) 0 0) [] := RunR.lit rfl (Nat.le_refl _)
  have hb0 : Below w.heap.size w (w.alloc (.cells #[] 53)) := below_alloc (Below.refl _ _) _
  go_loopw [3, 9] (fun o i wr => ∃ (k : Nat) (zs : List Run), k ≤ xs.length ∧ i = .int .i64 k ∧ Hid (zs.length = k) ∧ Hid (zs.map Run.k = (xs.take k).map Run.k) ∧ RunR w.heap.size wr o zs ∧ Below w.heap.size w wr)
    (fun _ i _ => xs.length - (intOf i).toNat)
  case atStart => exact ⟨0, [], Nat.zero_le _, rfl, rfl, rfl, hr0, hb0⟩
  case round =>
    clear hr0 hb0
    obtain ⟨k, zs, hkl, rfl, HZL, HZK, hR, hb⟩ := hrel
    by_cases hlt : k < xs.length
    · obtain ⟨b, off, rfl, hat⟩ := flat_at hk (by omega)
      have hr := rangeAt_below (hat k hlt) hb
      have hin := (HI.out _ (List.getElem_mem hlt)).below hb
      have hpl := HP.out _ (List.getElem_mem hlt)
      have HSK := Lib.hid (show (xs.take (k + 1)).map Run.k = (xs.take k).map Run.k ++ [xs[k].k] by rw [List.take_succ_eq_append_getElem hlt, List.map_append]; rfl)
      have HLL := Lib.hid (show (zs.map Run.lst).length + 1 ≤ 2147483648 by rw [List.length_map, HZL.out]; omega)
      obtain ⟨x, hx⟩ : ∃ x, x = xs[k] := ⟨_, rfl⟩
      rw [← hx] at hr hin hpl HSK
      obtain ⟨x0, x1, x2, ⟨⟨k0, k1, k2, sp⟩, B, m, d⟩⟩ := x
      simp only at hin hpl
      have hb1 : Below wr.heap.size wr (wr.alloc (.cells #[.int .i64 x0, .bool x1, .bool x2, .int .i64 k0, .int .i64 k1, .int .i64 k2, .slice B m d] 53)) := below_alloc (Below.refl _ _) _
      have hsz1 : (wr.alloc (.cells #[.int .i64 x0, .bool x1, .bool x2, .int .i64 k0, .int .i64 k1, .int .i64 k2, .slice B m d] 53)).heap.size = wr.heap.size + 1 := by simp
      have hcr := Run.cardRange (Run.rangeNew wr ⟨x0, x1, x2, ⟨⟨k0, k1, k2, sp⟩, B, m, d⟩⟩ 53)
      simp only [Nat.zero_add] at hcr
      have HLT := Lib.hid (show LitAt (wr.alloc (.cells #[.int .i64 x0, .bool x1, .bool x2, .int .i64 k0, .int .i64 k1, .int .i64 k2, .slice B m d] 53)) wr.heap.size 53 [.int .i64 x0, .bool x1, .bool x2, .int .i64 k0, .int .i64 k1, .int .i64 k2, .slice B m d] from LitAt.new _ _ _ _ rfl)
      have HCALL := Lib.hid (newCard_any ⟨⟨k0, k1, k2, sp⟩, B, m, d⟩ _ (hin.below hb1) hpl)
      have HB1 := Lib.hid hb1
      have HR := Lib.hid hR
      have HB := Lib.hid hb
      have HZ1 := Lib.hid hsz1
      clear hat hk hx hin hR hb hb1 hsz1
      go_wp2_with (first
        | ((with_reducible refine at_load_ 53 ?_); refine Run.loadImpl rfl _ rfl b (off + k * 7) rfl _ hr ?_)
        | ((with_reducible refine at_load_ 51 ?_); refine Card.loadImpl rfl _ rfl wr.heap.size 3 rfl ⟨⟨k0, k1, k2, sp⟩, B, m, d⟩ hcr ?_)
        | (go_at_call 101
           refine HCALL.out.mono ?_
           rintro e w2 ⟨⟨kk, A', n', c'⟩, he, hk', row2, hb2⟩
           simp only at hk'
           subst hk'
           obtain rfl : e = .returned (.agg #[.int .i64 k0, .int .i64 k1, .int .i64 k2, .slice A' n' c']) := he
           have row2 : Row (wr.alloc (.cells #[.int .i64 x0, .bool x1, .bool x2, .int .i64 k0, .int .i64 k1, .int .i64 k2, .slice B m d] 53)).heap.size 77 2 w2 (.slice A' n' c') (sp.map Punch.lst) := row2
           rw [HZ1.out] at row2
           have hm := HLT.out.below hb2
           have hc0 := hm.range 0 _ rfl
           have hc1 := hm.range 1 _ rfl
           have hc2 := hm.range 2 _ rfl
           have hc3 := hm.range 3 _ rfl
           have hc4 := hm.range 4 _ rfl
           have hc5 := hm.range 5 _ rfl
           have hc6 := hm.range 6 _ rfl
           have hf := hm.frozen
           simp only [Nat.zero_add] at hc0 hc1 hc2 hc3 hc4 hc5 hc6
           have HB2 := Lib.hid (show Below wr.heap.size wr ((((w2.setCell ⟨wr.heap.size, 3, none⟩ (.int .i64 k0)).setCell ⟨wr.heap.size, 4, none⟩ (.int .i64 k1)).setCell ⟨wr.heap.size, 5, none⟩ (.int .i64 k2)).setCell ⟨wr.heap.size, 6, none⟩ (.slice A' n' c')) from (by repeat (first | (with_reducible exact step_ HB1.out (Nat.le_refl _) hb2) | (with_reducible refine Below.setCell ?_ (by simp) _))))
           have HR2 := Lib.hid (show Row wr.heap.size 77 2 ((((w2.setCell ⟨wr.heap.size, 3, none⟩ (.int .i64 k0)).setCell ⟨wr.heap.size, 4, none⟩ (.int .i64 k1)).setCell ⟨wr.heap.size, 5, none⟩ (.int .i64 k2)).setCell ⟨wr.heap.size, 6, none⟩ (.slice A' n' c')) (.slice A' n' c') (sp.map Punch.lst) from Row.mono (base := wr.heap.size + 1) (by repeat (first | (with_reducible exact row2) | (with_reducible refine Row.setOther ?_ (Nat.lt_succ_self _) _))) (Nat.le_succ _))
           have HRO := Lib.hid ((HR.out.1.below HB2.out).alloc (.cells #[.int .i64 x0, .bool x1, .bool x2, .int .i64 k0, .int .i64 k1, .int .i64 k2, .slice A' n' c'] 53))
           have HSR := Lib.hid (Src.lit ((((w2.setCell ⟨wr.heap.size, 3, none⟩ (.int .i64 k0)).setCell ⟨wr.heap.size, 4, none⟩ (.int .i64 k1)).setCell ⟨wr.heap.size, 5, none⟩ (.int .i64 k2)).setCell ⟨wr.heap.size, 6, none⟩ (.slice A' n' c')) 53 (Run.lst ⟨x0, x1, x2, ⟨⟨k0, k1, k2, sp⟩, A', n', c'⟩⟩) w2.heap.size (by simp) rfl (Run.one _))
           have HSZ := Lib.hid (show w.heap.size ≤ (World.alloc ((((w2.setCell ⟨wr.heap.size, 3, none⟩ (.int .i64 k0)).setCell ⟨wr.heap.size, 4, none⟩ (.int .i64 k1)).setCell ⟨wr.heap.size, 5, none⟩ (.int .i64 k2)).setCell ⟨wr.heap.size, 6, none⟩ (.slice A' n' c')) (.cells #[.int .i64 x0, .bool x1, .bool x2, .int .i64 k0, .int .i64 k1, .int .i64 k2, .slice A' n' c'] 53)).heap.size by have h1 := HB.out.size; have h2 := HB2.out.size; simp at h2 ⊢; omega)
           clear hm hb2 row2)
        | (at_builtin; refine tyRun.append rfl _ _ rfl w.heap.size _ _ rfl HRO.out _ 1 1 _ rfl HSR.out HLL.out HSZ.out ?_; intro o4 w4 hrow4 hg4 hat4))
      have hpush := RunR.push (z := ⟨x0, x1, x2, ⟨⟨k0, k1, k2, sp⟩, A', n', c'⟩⟩) HR.out HB.out.size (step_ HB2.out (Nat.le_refl _) (below_alloc (Below.refl _ _) (.cells #[.int .i64 x0, .bool x1, .bool x2, .int .i64 k0, .int .i64 k1, .int .i64 k2, .slice A' n' c'] 53))) (HR2.out.alloc _) hrow4 hg4 hat4
      have HPU := Lib.hid hpush
      have HB4 := Lib.hid ((step_ HB.out (Nat.le_refl _) (step_ HB2.out (Nat.le_refl _) (below_alloc (Below.refl _ _) (.cells #[.int .i64 x0, .bool x1, .bool x2, .int .i64 k0, .int .i64 k1, .int .i64 k2, .slice A' n' c'] 53)))).grown hg4 HSZ.out (fun q hq => (HR.out.1.lt q hq).1))
      clear hpush hrow4 hg4 hat4
      go_roundw
      case rel => exact ⟨k + 1, zs ++ [⟨x0, x1, x2, ⟨⟨k0, k1, k2, sp⟩, A', n', c'⟩⟩], by omega, by go_num, by show _ = _; simp; exact HZL.out, by show _ = _; rw [HSK.out, List.map_append, HZK.out]; rfl, HPU.out, HB4.out⟩
      case measure => simp [intOf]; omega
    · go_wp2
      go_ret
      obtain rfl : k = xs.length := by omega
      refine ⟨_, zs, rfl, by rw [HZK.out, List.take_length], hR, hb⟩
end Go.Proofs.Ytojpklpfnmjikaa
