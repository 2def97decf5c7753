/- The law's own copies, sizes, comparisons and marks of a race. No condition. -/
import Derived.Test.YtfmgnbkneccekaaRcW
namespace Go.Proofs.Ytfmgnbkneccekaa
open Go Go.RowKit

/-- A race of the call's own. -/
def RaceR (base : Nat) (w : World) (p : Race) : Prop := EntR base w p.sv p.zs
theorem RaceR.below {base : Nat} {w w' : World} {p : Race} (h : RaceR base w p) (hb : Below w.heap.size w w') : RaceR base w' p := EntR.below h hb
theorem RaceR.mono {base base' : Nat} {w : World} {p : Race} (h : RaceR base w p) (hb : base' ≤ base) : RaceR base' w p := EntR.mono h hb
theorem RaceR.s {base : Nat} {w : World} {p : Race} (h : RaceR base w p) : p.In w := EntR.s h
def RaceBlk (p : Race) (k : Nat) : Prop := EntBlk p.sv p.zs k
theorem RaceR.lt {base : Nat} {w : World} {p : Race} (h : RaceR base w p) : ∀ k, RaceBlk p k → base ≤ k ∧ k < w.heap.size := EntR.lt h
theorem EntR.keptOff {base : Nat} {w w' : World} {v : Value} {zs : List Ent} {S : Nat → Prop} (h : EntR base w v zs) (hg : KeptOff S w w') (hne : ∀ k, EntBlk v zs k → ¬ S k) : EntR base w' v zs :=
  ⟨Row.keptOff h.1 hg (fun k hk => hne k (.inl hk)), fun z hz => ⟨Row.keptOff (h.2.1 z hz).1 hg (fun k hk => hne k (.inr ⟨z, hz, hk⟩)), (h.2.1 z hz).2⟩, h.2.2⟩
theorem RaceR.keptOff {base : Nat} {w w' : World} {p : Race} {S : Nat → Prop} (h : RaceR base w p) (hg : KeptOff S w w') (hne : ∀ k, RaceBlk p k → ¬ S k) : RaceR base w' p := EntR.keptOff h hg hne
theorem Row.setOther {base : Nat} {e : TypeId} {sz : Nat} {w : World} {v : Value} {ys : List (List Value)} (h : Row base e sz w v ys) {q o : Nat} (hq : q < base) (u : Value) : Row base e sz (w.setCell ⟨q, o, none⟩ u) v ys :=
  ⟨h.1, ownsRow_setCell_other h.2 (fun e => by have := (h.lt q e).1; omega) _⟩
theorem EntR.setOther {base : Nat} {w : World} {v : Value} {zs : List Ent} (h : EntR base w v zs) {q o : Nat} (hq : q < base) (u : Value) : EntR base (w.setCell ⟨q, o, none⟩ u) v zs :=
  ⟨Row.setOther h.1 hq u, fun z hz => ⟨Row.setOther (h.2.1 z hz).1 hq u, (h.2.1 z hz).2⟩, h.2.2⟩
def raceZ : List Value := [.int .i64 0, .bool false, .slice none 0 0]
def RaceK.ok (k : RaceK) : Prop := I64 k.clock ∧ ∀ e ∈ k.field, e.ok
def raceSh (fe fc fp : Array Field) : Sh := .cat 3 (.int .i64) (.cat 4 .bool (.cat 30 (.sl 117 (.str fe (entSh fc fp))) .emp))
theorem race_of_holds {fe fc fp : Array Field} {w : World} {cs : List Value} (h : Holds w (raceSh fe fc fp) cs) : ∃ p : Race, cs = p.lst ∧ p.In w ∧ p.k.ok := by
  obtain ⟨_, _, rfl, _, ⟨n0, rfl, w0⟩, _, _, rfl, _, ⟨b0, rfl⟩, _, _, rfl, _, h1, rfl⟩ := h
  have h1' := h1
  obtain ⟨A, n, c, rfl, _⟩ := h1
  obtain ⟨xs, hs, ho⟩ := entS_of_holds h1'
  exact ⟨⟨n0, b0, A, n, c, xs⟩, rfl, hs, i64_of_wf w0, fun e he => by
    obtain ⟨z, hz, rfl⟩ := List.mem_map.1 he
    exact ho z hz⟩
theorem fitRace : ∃ fs fe fc fp, Fit Try.prog (.str fs (raceSh fe fc fp)) (.inl 32) := by
  obtain ⟨fe, fc, fp, he⟩ := fitEntS
  exact ⟨_, fe, fc, fp, Try.underlying32, by kernel_rfl, ⟨_, _, rfl, rfl, rfl, by kernel_rfl, Try.underlying3, ⟨_, _, rfl, rfl, rfl, by kernel_rfl, Try.underlying4, ⟨_, _, rfl, rfl, rfl, by kernel_rfl, he, rfl⟩⟩⟩⟩

set_option maxHeartbeats 1000000 in
theorem szRace_any (p : Race) (left : Int) (w : World) (h : p.In w) (hl : 0 ≤ left) (hl2 : left ≤ 1048576) :
    Calls Try.prog 18 #[p.val, .int .i64 left] w fun e w' => ∃ q : Int, e = .returned (.int .i64 q) ∧ Hid (0 ≤ q → p.zs.length ≤ 1048576 ∧ ∀ z ∈ p.zs, z.card.k.punches.length ≤ 1048576) ∧ q ≤ 1048576 ∧ Below w.heap.size w w' := by
  obtain ⟨cl, cd, A, n, c, zs⟩ := p
  have hW : Below w.heap.size w (w.alloc (.cells #[.int .i64 cl, .bool cd, .slice A n c] 32)) := below_alloc (Below.refl _ _) _
  have HS := Lib.hid (szEntrantS_any zs (.slice A n c) left _ (EntS.below h hW) hl hl2)
  have HW := Lib.hid hW
  show Calls Try.prog 18 #[.agg #[.int .i64 cl, .bool cd, .slice A n c], .int .i64 left] w _
  clear h hW
  go_enter Try.func18, Try.ntmps18
  go_wp2_with (go_at_call 63; refine HS.out.mono ?_; rintro e w1 ⟨q, rfl, HQ, hq, hb1⟩)
  all_goals
    go_ret
    first
      | exact ⟨-1, rfl, fun h => absurd h (by omega), by omega, step_ HW.out (Nat.le_refl _) hb1⟩
      | exact ⟨q, rfl, HQ.out, hq, step_ HW.out (Nat.le_refl _) hb1⟩
set_option maxHeartbeats 2000000 in
theorem toRace_any (p : Race) (w : World) (h : p.In w) (hn : p.zs.length ≤ 1048576) (hn2 : ∀ z ∈ p.zs, z.card.k.punches.length ≤ 1048576) :
    Calls Try.prog 20 #[p.val] w fun e w' => ∃ p' : Race, e = .returned p'.val ∧ p'.k = p.k ∧ RaceR w.heap.size w' p' ∧ Below w.heap.size w w' := by
  obtain ⟨cl, cd, A, n, c, zs⟩ := p
  have hs : EntS w (.slice A n c) zs := h
  show Calls Try.prog 20 #[.agg #[.int .i64 cl, .bool cd, .slice A n c]] w _
  simp only at hn hn2
  clear h
  go_enter Try.func20, Try.ntmps20
  go_wp2_with fail
  have hW : Below w.heap.size w (((w.alloc (.cells #[.int .i64 cl, .bool cd, .slice A n c] 32)).alloc (.cells #[.int .i64 0, .bool false, .slice none 0 0] 24)).alloc (.cells #[.int .i64 cl, .bool cd, .slice none 0 0] 24)) := by (repeat (first | exact Below.refl _ _ | assumption | refine Below.drew ?_ | refine Below.alloc ?_ (by first | exact Nat.le_refl _ | (simp; done) | (simp; omega)) _))
  have hl1 : LitAt (((w.alloc (.cells #[.int .i64 cl, .bool cd, .slice A n c] 32)).alloc (.cells #[.int .i64 0, .bool false, .slice none 0 0] 24)).alloc (.cells #[.int .i64 cl, .bool cd, .slice none 0 0] 24)) (w.heap.size + 1) 24 [.int .i64 0, .bool false, .slice none 0 0] := LitAt.alloc (LitAt.new _ _ _ _ (by simp)) _
  have hl2 : LitAt (((w.alloc (.cells #[.int .i64 cl, .bool cd, .slice A n c] 32)).alloc (.cells #[.int .i64 0, .bool false, .slice none 0 0] 24)).alloc (.cells #[.int .i64 cl, .bool cd, .slice none 0 0] 24)) (w.heap.size + 1 + 1) 24 [.int .i64 cl, .bool cd, .slice none 0 0] := LitAt.new _ _ _ _ (by simp)
  have hsz : (((w.alloc (.cells #[.int .i64 cl, .bool cd, .slice A n c] 32)).alloc (.cells #[.int .i64 0, .bool false, .slice none 0 0] 24)).alloc (.cells #[.int .i64 cl, .bool cd, .slice none 0 0] 24)).heap.size = w.heap.size + 3 := by simp
  generalize ((w.alloc (.cells #[.int .i64 cl, .bool cd, .slice A n c] 32)).alloc (.cells #[.int .i64 0, .bool false, .slice none 0 0] 24)).alloc (.cells #[.int .i64 cl, .bool cd, .slice none 0 0] 24) = W at hW hl1 hl2 hsz ⊢
  refine (toEntrantS_any zs _ W (hs.below hW) hn hn2).mono ?_
  rintro e w1 ⟨v', zs', rfl, hk', row, hb1⟩
  have hB1 := step_ hW (Nat.le_refl _) hb1
  have hm1 := hl1.below hb1
  have hm2 := hl2.below hb1
  have hc10 := hm1.range 0 _ rfl
  have hc11 := hm1.range 1 _ rfl
  have hc12 := hm1.range 2 _ rfl
  have hc20 := hm2.range 0 _ rfl
  have hc21 := hm2.range 1 _ rfl
  have hc22 := hm2.range 2 _ rfl
  have hf1 := hm1.frozen
  have hf2 := hm2.frozen
  simp only [Nat.zero_add] at hc10 hc11 hc12 hc20 hc21 hc22
  obtain ⟨A', c', rfl, hc', _⟩ := row.1.parts
  simp only [List.length_map] at hc' row ⊢
  have ROW := Lib.hid row
  have HSZ := Lib.hid hsz
  have HB1 := Lib.hid hB1
  have HK := Lib.hid hk'
  clear hs hn hn2 row hsz hB1 hm1 hm2 hl1 hl2 hW hc' hk'
  go_wp2
  refine bodyPost_ret (v := .agg #[.int .i64 cl, .bool cd, .slice A' zs'.length c']) (by simp [results, Try.results20, go_sem, hc10, hc11, hc12]) rfl ⟨⟨cl, cd, A', zs'.length, c', zs'⟩, rfl, by simp only [Race.k, HK.out], ?_, ?_⟩
  · have h0 := EntR.mono ROW.out (base' := w.heap.size + 3) (by have := HSZ.out; omega)
    refine EntR.mono (base := w.heap.size + 3) ?_ (by omega)
    repeat (first | (with_reducible exact h0) | (with_reducible refine EntR.setOther ?_ (by omega) _))
  · repeat (first | (with_reducible exact HB1.out) | (with_reducible refine Below.setCell ?_ (by simp <;> omega) _))
set_option maxHeartbeats 1000000 in
theorem eqRace_refl (p q : Race) (w : World) (hk : p.k = q.k) (hp : p.In w) (hq : q.In w) :
    Calls Try.prog 15 #[p.val, q.val] w fun e w' => e = .returned (.bool true) ∧ Below w.heap.size w w' := by
  obtain ⟨cl, cd, A, n, c, zs⟩ := p
  obtain ⟨cl', cd', A', n', c', zs'⟩ := q
  simp only [Race.k, RaceK.mk.injEq] at hk
  obtain ⟨rfl, rfl, hkk⟩ := hk
  have hW1 : Below w.heap.size w (w.alloc (.cells #[.int .i64 cl, .bool cd, .slice A n c] 24)) := below_alloc (Below.refl _ _) _
  have hW : Below w.heap.size w ((w.alloc (.cells #[.int .i64 cl, .bool cd, .slice A n c] 24)).alloc (.cells #[.int .i64 cl, .bool cd, .slice A' n' c'] 24)) := below_alloc hW1 _
  have HE := Lib.hid (eqEntrantS_refl zs zs' (.slice A n c) (.slice A' n' c') _ (EntS.below hp hW) (EntS.below hq hW) hkk)
  have HW := Lib.hid hW
  have hbb : (cd != cd) = false := by simp
  show Calls Try.prog 15 #[.agg #[.int .i64 cl, .bool cd, .slice A n c], .agg #[.int .i64 cl, .bool cd, .slice A' n' c']] w _
  clear hp hq hW hW1 hkk
  go_enter Try.func15, Try.ntmps15
  go_wp2_with (go_at_call 60; refine HE.out.mono ?_; rintro e w1 ⟨rfl, hb1⟩)
  go_ret
  exact ⟨rfl, step_ HW.out (Nat.le_refl _) hb1⟩

theorem KeptOff.of_below {S : Nat → Prop} {w w1 : World} (h : Below w.heap.size w w1) : KeptOff S w w1 := ⟨h.os, h.tape, h.output, h.size, fun i hi _ => h.block i hi⟩
set_option maxHeartbeats 1000000 in
theorem markRace_any (base : Nat) (p : Race) (k0 : Int) (w : World) (h : RaceR base w p) (h0 : 0 ≤ k0) (h1 : k0 ≤ 4398046511104) (hl : p.zs.length ≤ 1048576 ∧ ∀ z ∈ p.zs, z.card.k.punches.length ≤ 1048576) :
    Calls Try.prog 16 #[p.val, .int .i64 k0] w fun e w' => e = .returned (.int .i64 (entEnd k0 (entLens p.zs))) ∧ (∃ zz, EntR base w' p.sv zz ∧ zz.map Ent.k = entMarks k0 (entLens p.zs)) ∧ KeptOff (RaceBlk p) w w' := by
  obtain ⟨cl, cd, A, n, c, zs⟩ := p
  have hW : Below w.heap.size w (w.alloc (.cells #[.int .i64 cl, .bool cd, .slice A n c] 24)) := below_alloc (Below.refl _ _) _
  have HM := Lib.hid (markEntrantS_any base (.slice A n c) zs k0 _ (EntR.below h hW) h0 h1 hl)
  have HW := Lib.hid hW
  simp only
  obtain ⟨m, hm⟩ : ∃ m, m = entEnd k0 (entLens zs) := ⟨_, rfl⟩
  rw [← hm] at HM ⊢
  show Calls Try.prog 16 #[.agg #[.int .i64 cl, .bool cd, .slice A n c], .int .i64 k0] w _
  clear h hW hm
  go_enter Try.func16, Try.ntmps16
  go_wp2_with (go_at_call 61; refine HM.out.mono ?_; rintro e w1 ⟨rfl, hz, hg⟩)
  go_ret
  exact ⟨rfl, hz, (KeptOff.of_below HW.out).trans hg⟩
theorem markRace_fr (base : Nat) (p : Race) (k0 : Int) (w : World) (h : RaceR base w p) (h0 : 0 ≤ k0) (h1 : k0 ≤ 1048577) (hl : p.zs.length ≤ 1048576 ∧ ∀ z ∈ p.zs, z.card.k.punches.length ≤ 1048576) :
    Calls Try.prog 16 #[p.val, .int .i64 k0] w fun e w' => ∃ m : Int, e = .returned (.int .i64 m) ∧ 0 ≤ m ∧ m ≤ 4611686018427387904 ∧ KeptOff (RaceBlk p) w w' :=
  (markRace_any base p k0 w h h0 (by omega) hl).mono fun _ _ ⟨h1, _, h3⟩ => by
    have := entEnd_bd p.zs k0 h0 (by omega) hl
    exact ⟨_, h1, by omega, by omega, h3⟩
set_option maxHeartbeats 1000000 in
theorem heldRace_any (p : Race) (zz : List Ent) (ns : List Nat) (k0 : Int) (w : World) (h : EntS w p.sv zz) (hk : zz.map Ent.k = entMarks k0 ns) (h0 : 0 ≤ k0) (h1 : k0 ≤ 4398046511104) (hl : ns.length ≤ 1048576) (hl2 : ∀ n ∈ ns, n ≤ 1048576) :
    Calls Try.prog 17 #[p.val, .int .i64 k0] w fun e w' => e = .returned (.int .i64 (entEnd k0 ns)) ∧ Below w.heap.size w w' := by
  obtain ⟨cl, cd, A, n, c, zs⟩ := p
  have hW : Below w.heap.size w (w.alloc (.cells #[.int .i64 cl, .bool cd, .slice A n c] 24)) := below_alloc (Below.refl _ _) _
  have HM := Lib.hid (heldEntrantS_any (.slice A n c) zz ns k0 _ (EntS.below h hW) hk h0 h1 hl hl2)
  have HW := Lib.hid hW
  have hm0 : 0 ≤ entEnd k0 ns := by
    have := entEnd_le ns k0 ns.length hl2 (Nat.le_refl _)
    rw [List.take_length] at this
    omega
  obtain ⟨m, hm⟩ : ∃ m, m = entEnd k0 ns := ⟨_, rfl⟩
  rw [← hm] at HM hm0 ⊢
  show Calls Try.prog 17 #[.agg #[.int .i64 cl, .bool cd, .slice A n c], .int .i64 k0] w _
  clear h hW hm hk
  go_enter Try.func17, Try.ntmps17
  go_wp2_with (go_at_call 62; refine HM.out.mono ?_; rintro e w1 ⟨rfl, rfl⟩)
  go_ret
  exact ⟨rfl, HW.out⟩
theorem lensRace_ {p q : Race} (hk : q.k = p.k) (h : p.zs.length ≤ 1048576 ∧ ∀ z ∈ p.zs, z.card.k.punches.length ≤ 1048576) : q.zs.length ≤ 1048576 ∧ ∀ z ∈ q.zs, z.card.k.punches.length ≤ 1048576 :=
  lensEnt_ (by simpa [Race.k] using congrArg RaceK.field hk) h
theorem range_keptOff {S : Nat → Prop} {w w' : World} {b o : Nat} {cs : List Value} (h : w.rangeAt b o cs) (hg : KeptOff S w w') (hne : ¬ S b) : w'.rangeAt b o cs := by
  intro j u hu
  have h1 := h j u hu
  have := hg.block b (block_lt_of_cell h1) hne
  unfold World.cell? at h1 ⊢
  rw [this]
  exact h1
end Go.Proofs.Ytfmgnbkneccekaa
