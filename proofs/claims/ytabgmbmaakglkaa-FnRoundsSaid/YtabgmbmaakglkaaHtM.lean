/- The law's marks on heats: what they turn and what they leave. No condition. -/
import Derived.Test.YtabgmbmaakglkaaHtL
import Derived.Test.YtabgmbmaakglkaaFrame
namespace Go.Proofs.Ytabgmbmaakglkaa
open Go Go.RowKit

theorem range_keptOff {S : Nat → Prop} {w w' : World} {b o : Nat} {cs : List Value} (h : w.rangeAt b o cs) (hg : KeptOff S w w') (hne : ¬ S b) : w'.rangeAt b o cs := by
  intro j u hu
  have h1 := h j u hu
  have := hg.block b (block_lt_of_cell h1) hne
  unfold World.cell? at h1 ⊢
  rw [this]
  exact h1
theorem KeptOff.of_below {S : Nat → Prop} {a b : World} (h : Below a.heap.size a b) : KeptOff S a b := ⟨h.os, h.tape, h.output, h.size, fun k hk _ => h.block k hk⟩
theorem KeptOff.mono {S T : Nat → Prop} {a b : World} (h : KeptOff S a b) (hs : ∀ k, S k → T k) : KeptOff T a b := ⟨h.os, h.tape, h.output, h.size, fun k hk ht => h.block k hk (fun h' => ht (hs k h'))⟩
theorem HtR.keptOff {base : Nat} {w w' : World} {p : Ht} {S : Nat → Prop} (h : HtR base w p) (hg : KeptOff S w w') (hne : ∀ k, HtBlk p k → ¬ S k) : HtR base w' p :=
  ⟨Row.keptOff h.1 hg (fun k hk => hne k (.inl hk)), Row.keptOff h.2.1 hg (fun k hk => hne k (.inr hk)), h.2.2⟩
def HtSBlk (v : Value) (zs : List Ht) (k : Nat) : Prop := v.ownBlock = some k ∨ ∃ z ∈ zs, HtBlk z k
theorem HtSR.lt {base : Nat} {w : World} {v : Value} {zs : List Ht} (h : HtSR base w v zs) : ∀ k, HtSBlk v zs k → base ≤ k ∧ k < w.heap.size := by
  rintro k (hk | ⟨z, hz, hk⟩)
  · exact Row.lt h.1 k hk
  · exact (h.2.1 z hz).1.lt k hk
theorem lensHt_ {xs zs : List Ht} (hk : zs.map Ht.k = xs.map Ht.k) (h : xs.length ≤ 1048576 ∧ ∀ p ∈ xs, p.k.runners.length ≤ 1048576 ∧ p.k.times.length ≤ 1048576) : zs.length ≤ 1048576 ∧ ∀ z ∈ zs, z.k.runners.length ≤ 1048576 ∧ z.k.times.length ≤ 1048576 := by
  have hl : zs.length = xs.length := by simpa using congrArg List.length hk
  refine ⟨by omega, fun z hz => ?_⟩
  have : z.k ∈ xs.map Ht.k := hk ▸ List.mem_map.2 ⟨z, hz, rfl⟩
  obtain ⟨p, hp, he⟩ := List.mem_map.1 this
  rw [← he]
  exact h.2 p hp
theorem lenHt {xs zs : List Ht} (hk : zs.map Ht.k = xs.map Ht.k) (h : xs.length ≤ 1048576) : zs.length ≤ 1048577 := by
  have hl : zs.length = xs.length := by simpa using congrArg List.length hk
  omega
theorem lensHt1_ {x z : Ht} (hk : z.k = x.k) (h : x.k.runners.length ≤ 1048576 ∧ x.k.times.length ≤ 1048576) : z.k.runners.length ≤ 1048576 ∧ z.k.times.length ≤ 1048576 := by rw [hk]; exact h

set_option maxRecDepth 100000 in
set_option maxHeartbeats 2000000 in
theorem markHeat_fr (base : Nat) (p : Ht) (k0 : Int) (w : World) (h : HtR base w p) (h0 : 0 ≤ k0) (h1 : k0 ≤ 1048577) (hl : p.k.runners.length ≤ 1048576 ∧ p.k.times.length ≤ 1048576) :
    Calls Try.prog 16 #[p.val, .int .i64 k0] w fun e w' => ∃ m : Int, e = .returned (.int .i64 m) ∧ 0 ≤ m ∧ m ≤ 4611686018427387904 ∧ KeptOff (HtBlk p) w w' := by
  have hin := h.s.len
  obtain ⟨⟨rs, ts⟩, A, n, c, B, m, d⟩ := p
  simp only at hin hl
  obtain ⟨rfl, rfl⟩ := hin
  obtain ⟨hl1, hl2⟩ := hl
  show Calls Try.prog 16 #[.agg #[.slice A rs.length c, .slice B ts.length d], .int .i64 k0] w _
  have hW : Below w.heap.size w (w.alloc (.cells #[.slice A rs.length c, .slice B ts.length d] 28)) := below_alloc (Below.refl _ _) _
  have hl0 := LitAt.new w 28 [.slice A rs.length c, .slice B ts.length d] w.heap.size rfl
  have hc0 := hl0.range 0 _ rfl
  simp only [Nat.zero_add] at hc0
  have hr := h.below hW
  have HLT := Lib.hid h.lt
  clear h
  go_enter Try.func16, Try.ntmps16
  go_wp2_with fail
  generalize w.alloc (.cells #[.slice A rs.length c, .slice B ts.length d] 28) = W at hW hl0 hc0 hr ⊢
  refine (markIntS_any base _ _ k0 _ hr.1 (by simp; omega) (by omega) (by omega)).mono ?_
  rintro e w1 ⟨rfl, row1, hg1⟩
  simp only [List.length_map] at row1 ⊢
  have hne : Value.ownBlock (.slice A rs.length c) ≠ some w.heap.size := fun e => by have := (HLT.out _ (.inl e)).2; omega
  have hl1' := hl0.grown hg1 hne
  have hc1 := hl1'.range 1 _ rfl
  simp only [Nat.zero_add] at hc1
  have ht := hr.2.1.kept hg1 (hr.2.2.elim (fun e => by rw [e]; cases h : Value.ownBlock (Ht.tv ⟨⟨rs, ts⟩, A, rs.length, c, B, ts.length, d⟩) <;> simp) (fun e => .inr fun h => e h.symm))
  clear hc0 hl0 hr
  go_wp2_with fail
  refine (markIntS_any base _ _ _ _ ht (by simp; omega) (by omega) (by omega)).mono ?_
  rintro e w2 ⟨rfl, row2, hg2⟩
  simp only [List.length_map]
  go_wp2
  go_ret
  exact ⟨_, rfl, by omega, by omega, (KeptOff.of_below hW).trans ((KeptOff.of_grown hg1 fun k hk => .inl hk).trans (KeptOff.of_grown hg2 fun k hk => .inr hk))⟩

set_option maxRecDepth 100000 in
set_option maxHeartbeats 4000000 in
theorem markHeatS_fr (base : Nat) (v : Value) (zs : List Ht) (k0 : Int) (w : World) (h : HtSR base w v zs) (h0 : 0 ≤ k0) (h1 : k0 ≤ 1048577) (hl : zs.length ≤ 1048576 ∧ ∀ z ∈ zs, z.k.runners.length ≤ 1048576 ∧ z.k.times.length ≤ 1048576) :
    Calls Try.prog 25 #[v, .int .i64 k0] w fun e w' => ∃ m : Int, e = .returned (.int .i64 m) ∧ 0 ≤ m ∧ m ≤ 4611686018427387904 ∧ KeptOff (HtSBlk v zs) w w' := by
  obtain ⟨hl1, hl2⟩ := hl
  obtain ⟨A, c, rfl, hc, hm⟩ := h.1.parts
  simp only [List.length_map] at hc ⊢
  have HH := Lib.hid h
  have HL2 := Lib.hid hl2
  have HI0 := Lib.hid (show ∀ i (hi : i < zs.length), 0 ≤ i → HtR base w zs[i] from fun i hi _ => (h.2.1 _ (List.getElem_mem hi)).1)
  simp only [List.length_map] at HH
  clear h hl2
  go_enter Try.func25, Try.ntmps25
  go_wp2
  go_loopw [1, 5] (fun kk i wr => ∃ (j : Nat) (m : Int), j ≤ zs.length ∧ i = .int .i64 j ∧ kk = .int .i64 m ∧ 0 ≤ m ∧ m ≤ 1048577 + 2097152 * j ∧ Hid (∀ i (hi : i < zs.length), j ≤ i → HtR base wr zs[i]) ∧ Row base 28 2 wr (.slice A zs.length c) (zs.map Ht.lst) ∧ KeptOff (HtSBlk (.slice A zs.length c) zs) w wr)
    (fun _ i _ => zs.length - (intOf i).toNat)
  case atStart => exact ⟨0, k0, Nat.zero_le _, rfl, rfl, h0, by omega, HI0.out, HH.out.1, KeptOff.refl _ _⟩
  case round =>
    obtain ⟨j, m, hjl, rfl, rfl, hm0, hm1, HI, hrow, hko⟩ := hrel
    by_cases hlt : j < zs.length
    · obtain ⟨g, cap, he, hbg, hg, hcap⟩ := hrow.form (by simp; omega)
      simp only [Value.slice.injEq] at he
      obtain ⟨rfl, hq, rfl⟩ := he
      clear hq hcap
      have hr1 := hrow.range (k := j) (by simpa using hlt)
      rw [List.getElem_map] at hr1
      have hpz := HI.out j hlt (Nat.le_refl _)
      have hlz := HL2.out _ (List.getElem_mem hlt)
      have HOFF := Lib.hid ((HH.out.2.1 _ (List.getElem_mem hlt)).2)
      have HIN := Lib.hid (show ∀ k, HtBlk zs[j] k → HtSBlk (.slice (some ⟨g, 0, none⟩) zs.length c) zs k from fun k hk => .inr ⟨_, List.getElem_mem hlt, hk⟩)
      have HREST := Lib.hid (show ∀ wr' : World, KeptOff (HtBlk zs[j]) wr wr' → ∀ i (hi : i < zs.length), j + 1 ≤ i → HtR base wr' zs[i] from fun wr' hg i hi hji =>
        (HI.out i hi (by omega)).keptOff hg (fun k hk hk' => List.pairwise_iff_getElem.1 HH.out.2.2 j i hlt hi (by omega) k hk' hk))
      have HKO := Lib.hid hko
      obtain ⟨p, hp⟩ : ∃ p, p = zs[j] := ⟨_, rfl⟩
      rw [← hp] at hr1 hpz hlz HOFF HIN HREST
      clear hp hko HI
      have hin := hpz.s.len
      obtain ⟨⟨rs, ts⟩, A', n', c', B', m', d'⟩ := p
      simp only at hin hlz
      obtain ⟨rfl, rfl⟩ := hin
      obtain ⟨hz1, hz2⟩ := hlz
      have hc0 := (Ht.cells hr1).1
      simp only at hc0
      go_wp2_with fail
      refine (markIntS_any base _ _ m _ hpz.1 (by simp; omega) (by omega) (by omega)).mono ?_
      rintro e w1 ⟨rfl, row1, hg1⟩
      simp only [List.length_map] at row1 ⊢
      have hrow1 := hrow.kept hg1 (.inr (fun e => HOFF.out g (.inl e.symm) rfl))
      have hc1 := (Ht.cells (by have := hrow1.range (k := j) (by simpa using hlt); exact range_grown_ hr1 hg1 (fun e => HOFF.out g (.inl e) rfl))).2
      simp only at hc1
      have ht := hpz.2.1.kept hg1 (hpz.2.2.elim (fun e => by rw [e]; cases h : Value.ownBlock (Ht.tv ⟨⟨rs, ts⟩, A', rs.length, c', B', ts.length, d'⟩) <;> simp) (fun e => .inr fun h => e h.symm))
      clear hc0 hr1 hrow
      go_wp2_with fail
      refine (markIntS_any base _ _ _ _ ht (by simp; omega) (by omega) (by omega)).mono ?_
      rintro e w2 ⟨rfl, row2, hg2⟩
      simp only [List.length_map]
      have hkk : KeptOff (HtBlk ⟨⟨rs, ts⟩, A', rs.length, c', B', ts.length, d'⟩) wr w2 := (KeptOff.of_grown hg1 fun k hk => .inl hk).trans (KeptOff.of_grown hg2 fun k hk => .inr hk)
      have hrow2 := hrow1.kept hg2 (.inr (fun e => HOFF.out g (.inr e.symm) rfl))
      have HR2 := Lib.hid (HREST.out w2 hkk)
      have HK2 := Lib.hid (HKO.out.trans (hkk.mono HIN.out))
      clear hkk ht hg1 hg2 hpz row1 row2 hrow1 hc1
      go_wp2
      go_roundw
      case rel => exact ⟨j + 1, _, by omega, by go_num, rfl, by omega, by omega, HR2.out, hrow2, HK2.out⟩
      case measure => simp [intOf]; omega
    · go_wp2
      go_ret
      exact ⟨m, rfl, hm0, by omega, hko⟩
end Go.Proofs.Ytabgmbmaakglkaa
