/- The walks of the copies of cards. No condition. -/
import Derived.Test.YtojpklpfnmjikaaCd
import Derived.Test.YtojpklpfnmjikaaFrame
import Derived.Test.YtojpklpfnmjikaaReg
namespace Go.Proofs.Ytojpklpfnmjikaa
open Go Go.RowKit

section
variable {P : Program} {t e : TypeId} {zv : Value} {z : List Value} {sz bytes : Nat}
/-- append(s, xs...) as a step of a region that draws, the row's base any. -/
theorem Ty.stepAppendR (T : Ty P t e zv z sz bytes) {w : World} {ops : Array Oper} {o : Oper} {a : Act} {K : Act → World → Prop} {Q : Exit → Act → World → Prop} {E : Prop} (hgd : o.guard = none) (s x : Operand)
    (ho : o.op = .call { callee := .builtin .append, args := #[s, x], argTypes := #[t, t] })
    (base : Nat) (v : Value) (ys : List (List Value)) (hs : a.eval s = v) (hown : Row base e sz w v ys) (A : Option Addr) (m c : Nat) (news : List (List Value)) (hx : a.eval x = .slice A m c) (hsrc : Src w sz A m news)
    (hn : ys.length + m ≤ 2147483648) (hb : base ≤ w.heap.size)
    (h : ∀ v' w', Row base e sz w' v' (ys ++ news) → w.grownBy w' v.ownBlock → (v'.ownBlock = v.ownBlock ∨ v'.ownBlock = some w.heap.size) → K (a.put o.dst v') w') :
    if Region.wanted o (yielded ops a.tmps) = true then Oper.wp P o a w K Q else E := by
  have hw : Region.wanted o (yielded ops a.tmps) = true := by simp [Region.wanted, hgd]
  rw [if_pos hw]
  obtain ⟨v', w', hrun, h2, h3, h4⟩ := append_run T hown o.type A m c news hsrc hn hb
  unfold Oper.wp execOp
  simp only [ho, resolve, invoke, builtin, Sem.run_bind, Sem.run_pure, Result.andThen_ok, List.map_toArray, List.map_cons, List.map_nil, hs, hx, hrun]
  exact h v' w' h2 h3 h4
end

set_option maxRecDepth 100000 in
set_option maxHeartbeats 4000000 in
theorem newCard_any (p : Card) (w : World) (h : p.In w) (hn : p.k.punches.length ≤ 1048577) :
    Calls Try.prog 101 #[p.val] w fun e w' => ∃ p' : Card, e = .returned p'.val ∧ p'.k = p.k ∧ Row w.heap.size 77 2 w' p'.sv (p'.k.punches.map Punch.lst) ∧ Below w.heap.size w w' := by
  have hpl := h.len
  obtain ⟨⟨r0, r1, r2, sp⟩, A, n, c⟩ := p
  have hs : Sl (Flat Punch.lst) 2 w (.slice A n c) sp := h
  simp only at hpl hn
  subst hpl
  show Calls Try.prog 101 #[.agg #[.int .i64 r0, .int .i64 r1, .int .i64 r2, .slice A sp.length c]] w _
  have hW : Below w.heap.size w ((w.alloc (.cells #[.int .i64 r0, .int .i64 r1, .int .i64 r2, .slice A sp.length c] 51)).alloc (.cells #[.int .i64 0, .int .i64 0, .int .i64 0, .slice none 0 0] 51)) := below_alloc (below_alloc (Below.refl _ _) _) _
  have hsz : ((w.alloc (.cells #[.int .i64 r0, .int .i64 r1, .int .i64 r2, .slice A sp.length c] 51)).alloc (.cells #[.int .i64 0, .int .i64 0, .int .i64 0, .slice none 0 0] 51)).heap.size = w.heap.size + 2 := by simp
  have hl1 : LitAt ((w.alloc (.cells #[.int .i64 r0, .int .i64 r1, .int .i64 r2, .slice A sp.length c] 51)).alloc (.cells #[.int .i64 0, .int .i64 0, .int .i64 0, .slice none 0 0] 51)) w.heap.size 51 [.int .i64 r0, .int .i64 r1, .int .i64 r2, .slice A sp.length c] := LitAt.alloc (LitAt.new _ _ _ _ rfl) _
  have hl2 : LitAt ((w.alloc (.cells #[.int .i64 r0, .int .i64 r1, .int .i64 r2, .slice A sp.length c] 51)).alloc (.cells #[.int .i64 0, .int .i64 0, .int .i64 0, .slice none 0 0] 51)) (w.heap.size + 1) 51 [.int .i64 0, .int .i64 0, .int .i64 0, .slice none 0 0] := LitAt.new _ _ _ _ (by simp)
  have HS := Lib.hid (Src.of_sl (hs.below (Flat.keeps _) (below_alloc hW (.cells #[] 77))) Punch.lst_len Punch.one)
  have HN := Lib.hid (show ([] : List (List Value)).length + sp.length ≤ 2147483648 by simp; omega)
  have HO := Lib.hid (show Row (w.heap.size + 2) 77 2 (((w.alloc (.cells #[.int .i64 r0, .int .i64 r1, .int .i64 r2, .slice A sp.length c] 51)).alloc (.cells #[.int .i64 0, .int .i64 0, .int .i64 0, .slice none 0 0] 51)).alloc (.cells #[] 77)) (.slice (some ⟨w.heap.size + 2, 0, none⟩) 0 0) [] by
    have := Row.lit_nil ((w.alloc (.cells #[.int .i64 r0, .int .i64 r1, .int .i64 r2, .slice A sp.length c] 51)).alloc (.cells #[.int .i64 0, .int .i64 0, .int .i64 0, .slice none 0 0] 51)) 77 2 (base := w.heap.size + 2) (by rw [hsz]; exact Nat.le_refl _)
    rw [hsz] at this
    exact this)
  have HW := Lib.hid hW
  have HL1 := Lib.hid hl1
  have HL2 := Lib.hid hl2
  have HZ := Lib.hid (show w.heap.size + 2 ≤ (((w.alloc (.cells #[.int .i64 r0, .int .i64 r1, .int .i64 r2, .slice A sp.length c] 51)).alloc (.cells #[.int .i64 0, .int .i64 0, .int .i64 0, .slice none 0 0] 51)).alloc (.cells #[] 77)).heap.size by simp)
  clear h hs hW hl1 hl2
  go_enter Try.func101, Try.ntmps101
  go_wp2_with (at_builtin
               (refine tyPunch.append rfl _ _ rfl (w.heap.size + 2) (.slice (some ⟨w.heap.size + 2, 0, none⟩) 0 0) [] rfl HO.out _ _ _ (sp.map Punch.lst) rfl HS.out HN.out HZ.out ?_)
               intro v4 w4 row4 hg4 hat4
               (have hm1 := (LitAt.alloc HL1.out (.cells #[] 77)).grown hg4 (by simp [Value.ownBlock]))
               (have hm2 := (LitAt.alloc HL2.out (.cells #[] 77)).grown hg4 (by simp [Value.ownBlock]))
               have hc10 := hm1.range 0 _ rfl
               have hc11 := hm1.range 1 _ rfl
               have hc12 := hm1.range 2 _ rfl
               have hc13 := hm1.range 3 _ rfl
               have hc20 := hm2.range 0 _ rfl
               have hc21 := hm2.range 1 _ rfl
               have hc22 := hm2.range 2 _ rfl
               have hc23 := hm2.range 3 _ rfl
               have hf1 := hm1.frozen
               have hf2 := hm2.frozen
               (simp only [Nat.zero_add] at hc10 hc11 hc12 hc13 hc20 hc21 hc22 hc23)
               (obtain ⟨A', c', rfl, hc', _⟩ := row4.parts)
               (simp only [List.nil_append, List.length_map] at hc' row4 ⊢)
               (have ROW := Lib.hid row4)
               (have HB4 := Lib.hid ((below_alloc HW.out (.cells #[] 77)).grown hg4 (by simp <;> omega) (fun q hq => by have := (HO.out.lt q hq).1; omega)))
               (clear row4 hg4 hat4 hm1 hm2 hc'))
  have hn1 : ∀ q, (Value.slice A' sp.length c').ownBlock = some q → w.heap.size + 2 ≤ q := fun q hq => (ROW.out.lt q hq).1
  refine bodyPost_ret (v := .agg #[.int .i64 r0, .int .i64 r1, .int .i64 r2, .slice A' sp.length c']) (by simp [results, Try.results101, go_sem, hc20, hc21, hc22, hc23]) rfl ⟨⟨⟨r0, r1, r2, sp⟩, A', sp.length, c'⟩, rfl, rfl, ?_, ?_⟩
  · refine ⟨ROW.out.1, ?_⟩
    have h0 := (ROW.out.mono (base' := w.heap.size) (by omega)).2
    repeat (first | (with_reducible exact h0) | (with_reducible refine ownsRow_setCell_other ?_ (fun e => by have := hn1 _ e; simp only at this; omega) _))
  · repeat (first | (with_reducible exact HB4.out) | (with_reducible refine Below.setCell ?_ (by simp <;> omega) _))

set_option maxRecDepth 100000 in
set_option maxHeartbeats 4000000 in
theorem l12Own_any (p : Card) (w : World) (h : p.In w) (hn : p.k.punches.length ≤ 1048577) :
    Calls Try.prog 98 #[p.val] w fun e w' => ∃ p' : Card, e = .returned p'.val ∧ p'.k = p.k ∧ Row w.heap.size 77 2 w' p'.sv (p'.k.punches.map Punch.lst) ∧ Below w.heap.size w w' := by
  have hpl := h.len
  obtain ⟨⟨r0, r1, r2, sp⟩, A, n, c⟩ := p
  have hs : Sl (Flat Punch.lst) 2 w (.slice A n c) sp := h
  simp only at hpl hn
  subst hpl
  show Calls Try.prog 98 #[.agg #[.int .i64 r0, .int .i64 r1, .int .i64 r2, .slice A sp.length c]] w _
  have hW0 : Below w.heap.size w (w.alloc (.cells #[.int .i64 r0, .int .i64 r1, .int .i64 r2, .slice A sp.length c] 51)) := below_alloc (Below.refl _ _) _
  have hW : Below (w.alloc (.cells #[.int .i64 r0, .int .i64 r1, .int .i64 r2, .slice A sp.length c] 51)).heap.size (w.alloc (.cells #[.int .i64 r0, .int .i64 r1, .int .i64 r2, .slice A sp.length c] 51)) ((w.alloc (.cells #[.int .i64 r0, .int .i64 r1, .int .i64 r2, .slice A sp.length c] 51)).alloc (.cells #[.int .i64 0, .int .i64 0, .int .i64 0, .slice none 0 0] 51)) := below_alloc (Below.refl _ _) _
  have hcn := Card.cellsNew w ⟨⟨r0, r1, r2, sp⟩, A, sp.length, c⟩ 51
  have hsz : ((w.alloc (.cells #[.int .i64 r0, .int .i64 r1, .int .i64 r2, .slice A sp.length c] 51)).alloc (.cells #[.int .i64 0, .int .i64 0, .int .i64 0, .slice none 0 0] 51)).heap.size = w.heap.size + 2 := by simp
  have hsz0 : (w.alloc (.cells #[.int .i64 r0, .int .i64 r1, .int .i64 r2, .slice A sp.length c] 51)).heap.size = w.heap.size + 1 := by simp
  have hl2 : LitAt ((w.alloc (.cells #[.int .i64 r0, .int .i64 r1, .int .i64 r2, .slice A sp.length c] 51)).alloc (.cells #[.int .i64 0, .int .i64 0, .int .i64 0, .slice none 0 0] 51)) (w.heap.size + 1) 51 [.int .i64 0, .int .i64 0, .int .i64 0, .slice none 0 0] := LitAt.new _ _ _ _ (by simp)
  have hOld : Old ((w.alloc (.cells #[.int .i64 r0, .int .i64 r1, .int .i64 r2, .slice A sp.length c] 51)).alloc (.cells #[.int .i64 0, .int .i64 0, .int .i64 0, .slice none 0 0] 51)) 2 A sp.length (sp.map Punch.lst) := Src.of_sl (hs.below (Flat.keeps _) (step_ hW0 (Nat.le_refl _) hW)) Punch.lst_len Punch.one
  have HL1 := Lib.hid (show ([] : List (List Value)).length + sp.length ≤ 2147483648 by simp; omega)
  have HW0 := Lib.hid hW0
  clear h hs hW0
  go_enter Try.func98, Try.ntmps98
  go_wp2_with fail
  generalize w.alloc (.cells #[.int .i64 r0, .int .i64 r1, .int .i64 r2, .slice A sp.length c] 51) = W0 at hW hcn hsz hsz0 hl2 hOld HW0 ⊢
  generalize W0.alloc (.cells #[.int .i64 0, .int .i64 0, .int .i64 0, .slice none 0 0] 51) = wc at hW hsz hl2 hOld ⊢
  try simp only at hcn
  have HKEEP := Lib.hid (show ∀ W', Below W0.heap.size W0 W' → W'.cell? ⟨w.heap.size, 0, none⟩ = some (.int .i64 r0) ∧ W'.cell? ⟨w.heap.size, 1, none⟩ = some (.int .i64 r1) ∧ W'.cell? ⟨w.heap.size, 2, none⟩ = some (.int .i64 r2) ∧ W'.cell? ⟨w.heap.size, 3, none⟩ = some (.slice A sp.length c) from fun W' hW' => hcn ⟨W', hW'⟩)
  have HWC := Lib.hid hW
  clear hcn
  go_region_held3 (fun w' => w'.cell? ⟨w.heap.size, 0, none⟩ = some (.int .i64 r0) ∧ w'.cell? ⟨w.heap.size, 1, none⟩ = some (.int .i64 r1) ∧ w'.cell? ⟨w.heap.size, 2, none⟩ = some (.int .i64 r2) ∧ w'.cell? ⟨w.heap.size, 3, none⟩ = some (.slice A sp.length c))
    (exact HKEEP.out _ (by repeat (first | (with_reducible exact HWC.out) | (with_reducible exact step_ HWC.out (Nat.le_refl _) (Own.b own1)) | (with_reducible refine Below.setCell ?_ (by simp <;> omega) _) | (with_reducible refine Below.drew ?_) | (with_reducible refine below_alloc ?_ _))))
    (first
      | (refine Ty.stepAppendOld (w0 := wc) tyPunch (by rfl) _ _ (by rfl) (.slice (some ⟨_, 0, none⟩) 0 0) [] (by rfl) (by repeat (first | (with_reducible exact Own.nil (by repeat (first | (with_reducible exact Below.refl _ _) | (with_reducible refine Below.drew ?_) | (with_reducible refine below_alloc ?_ _))) _ (by simp [hsz])) | (with_reducible refine Own.drew ?_) | (with_reducible refine Own.alloc ?_ _))) A _ _ _ (by rfl) hOld HL1.out ?_; intro v1 w1 own1 hg1 hat1; obtain ⟨A', c', rfl, hc', _⟩ := own1.1.parts; simp only [List.nil_append, List.length_map] at hc' own1 ⊢; have hm2 := LitAt.below hl2 (Own.b own1); have hc20 := hm2.range 0 _ rfl; have hc21 := hm2.range 1 _ rfl; have hc22 := hm2.range 2 _ rfl; have hc23 := hm2.range 3 _ rfl; have hf2 := hm2.frozen; simp only [Nat.zero_add] at hc20 hc21 hc22 hc23))
  all_goals
    have ROW := Lib.hid own1.1
    have HB4 := Lib.hid (step_ HW0.out (Nat.le_refl _) (step_ hW (Nat.le_refl _) own1.2))
    have HSZ := Lib.hid hsz
    clear own1 hg1 hat1 hOld hl2 hW hm2
    go_wp2
    have hn1 : ∀ q, (Value.slice A' sp.length c').ownBlock = some q → w.heap.size + 2 ≤ q := fun q hq => by have := (ROW.out.lt q hq).1; have := HSZ.out; omega
    refine bodyPost_ret (v := .agg #[.int .i64 r0, .int .i64 r1, .int .i64 r2, .slice A' sp.length c']) (by simp [results, Try.results98, go_sem, hc20, hc21, hc22, hc23]) rfl ⟨⟨⟨r0, r1, r2, sp⟩, A', sp.length, c'⟩, rfl, rfl, ?_, ?_⟩
    · refine ⟨ROW.out.1, ?_⟩
      have h0 := (ROW.out.mono (base' := w.heap.size) (by have := HSZ.out; omega)).2
      repeat (first | (with_reducible exact h0) | (with_reducible refine ownsRow_setCell_other ?_ (fun e => by have := hn1 _ e; simp only at this; omega) _))
    · repeat (first | (with_reducible exact HB4.out) | (with_reducible refine Below.setCell ?_ (by simp <;> omega) _))
end Go.Proofs.Ytojpklpfnmjikaa
