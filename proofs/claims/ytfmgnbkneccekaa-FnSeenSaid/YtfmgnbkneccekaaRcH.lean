/- NewRace, walked on both halves. No condition. -/
import Derived.Test.YtfmgnbkneccekaaRcF
import Derived.Test.YtfmgnbkneccekaaBase
namespace Go.Proofs.Ytfmgnbkneccekaa
open Go Go.RowKit

def zeroEntK : EntK := ⟨0, ⟨0, 0, 0, []⟩⟩
def zeroEnt : Ent := ⟨0, ⟨⟨0, 0, 0, []⟩, none, 0, 0⟩⟩
noncomputable def newV (n : Int) : RaceK := ⟨0, false, if inB n 1 8 then List.replicate n.toNat zeroEntK else []⟩
theorem newV_small (n : Int) : (newV n).field.length ≤ 1048576 ∧ ∀ e ∈ (newV n).field, e.card.punches.length ≤ 1048576 := by
  unfold newV
  split
  · rename_i h
    have : 1 ≤ n ∧ n ≤ 8 := by simpa [inB] using h
    refine ⟨by simp; omega, fun e he => ?_⟩
    simp only at he
    rw [(List.mem_replicate.1 he).2]
    simp [zeroEntK]
  · exact ⟨by simp, fun e he => by simp at he⟩
theorem lenRace_small {p : Race} {k : RaceK} (hk : p.k = k) (h : k.field.length ≤ 1048576 ∧ ∀ e ∈ k.field, e.card.punches.length ≤ 1048576) : p.zs.length ≤ 1048576 ∧ ∀ z ∈ p.zs, z.card.k.punches.length ≤ 1048576 := by
  subst hk
  simp only [Race.k, List.length_map] at h
  exact ⟨h.1, fun z hz => h.2 _ (List.mem_map_of_mem hz)⟩
theorem entR_zero {base : Nat} {w : World} {v : Value} {n : Nat} (h : Row base 75 5 w v (List.replicate n entZ)) : EntR base w v (List.replicate n zeroEnt) := by
  refine ⟨by rw [List.map_replicate]; exact h, fun z hz => ?_, ?_⟩
  · rw [(List.mem_replicate.1 hz).2]
    exact ⟨Row.nil _ _ _ _, .inl rfl⟩
  · exact List.pairwise_replicate.2 (.inr (.inl rfl))
set_option maxRecDepth 100000 in
set_option maxHeartbeats 4000000 in
theorem impl_NewRace (n : Int) (w : World) (hi : I64 n) :
    Calls Try.prog 14 #[.int .i64 n] w fun e w' => ∃ p' : Race, e = .returned (.tuple #[.agg #[.int .i64 p'.clock, .bool p'.closed, .slice p'.a p'.n p'.c], .bool (inB n 1 8)]) ∧ p'.k = newV n ∧ RaceR w.heap.size w' p' ∧ Below w.heap.size w w' := by
  have hb0 : Below w.heap.size w (w.alloc (.cells #[.int .i64 0, .bool false, .slice none 0 0] 24)) := below_alloc (Below.refl _ _) _
  have hl0 : LitAt (w.alloc (.cells #[.int .i64 0, .bool false, .slice none 0 0] 24)) w.heap.size 24 [.int .i64 0, .bool false, .slice none 0 0] := LitAt.new _ _ _ _ (by simp)
  have hz0 : (w.alloc (.cells #[.int .i64 0, .bool false, .slice none 0 0] 24)).heap.size = w.heap.size + 1 := by simp
  cases hq : inB n 1 8
  · have hnv : newV n = ⟨0, false, []⟩ := by simp [newV, hq]
    go_enter Try.func14, Try.ntmps14
    have hc0 := hl0.range 0 _ rfl
    have hc1 := hl0.range 1 _ rfl
    have hc2 := hl0.range 2 _ rfl
    have hf0 := hl0.frozen
    simp only [Nat.zero_add] at hc0 hc1 hc2
    go_wp2_with (go_at_call 59; refine (inside_any _ _ _ _).mono ?_; rintro e w' ⟨rfl, rfl⟩; rw [hq])
    refine bodyPost_ret (v := .tuple #[.agg #[.int .i64 0, .bool false, .slice none 0 0], .bool false]) (by simp [results, Try.results14, go_sem, hc0, hc1, hc2]) rfl ⟨⟨0, false, none, 0, 0, []⟩, rfl, hnv.symm, ?_, ?_⟩
    · exact ⟨Row.nil _ _ _ _, by simp, by simp⟩
    · repeat (first | (with_reducible exact hb0) | (with_reducible refine Below.setCell ?_ (by simp <;> omega) _))
  · have hnb : 1 ≤ n ∧ n ≤ 8 := by simpa [inB] using hq
    obtain ⟨m, rfl⟩ : ∃ m : Nat, n = (m : Int) := ⟨n.toNat, by omega⟩
    have hnv : newV (m : Int) = ⟨0, false, List.replicate m zeroEntK⟩ := by simp [newV, hq]
    go_enter Try.func14, Try.ntmps14
    have hcc0 := hl0.range 0 _ rfl
    have hcc1 := hl0.range 1 _ rfl
    have hcc2 := hl0.range 2 _ rfl
    have hff0 := hl0.frozen
    simp only [Nat.zero_add] at hcc0 hcc1 hcc2
    go_wp2_with (first
      | (go_at_call 59; refine (inside_any _ _ _ _).mono ?_; rintro e w' ⟨rfl, rfl⟩; rw [hq])
      | (refine tyEnt.make rfl _ _ rfl (w.heap.size + 1) m _ _ rfl rfl rfl rfl (by omega) (by rw [hz0]; exact Nat.le_refl _) ?_; intro w1 hrow1 hb1 hs1; have hl1 := hl0.below hb1; have hc0 := hl1.range 0 _ rfl; have hc1 := hl1.range 1 _ rfl; have hc2 := hl1.range 2 _ rfl; have hf0 := hl1.frozen; simp only [Nat.zero_add] at hc0 hc1 hc2; have HB1 := Lib.hid (step_ hb0 (Nat.le_refl _) hb1); have HROW := Lib.hid hrow1; clear hl1 hrow1 hb1 hcc0 hcc1 hcc2 hff0))
    rw [hz0] at HROW
    refine bodyPost_ret (v := .tuple #[.agg #[.int .i64 0, .bool false, .slice (some ⟨w.heap.size + 1, 0, none⟩) m m], .bool true]) (by simp [results, Try.results14, go_sem, hc0, hc1, hc2]) rfl ⟨⟨0, false, some ⟨w.heap.size + 1, 0, none⟩, m, m, List.replicate m zeroEnt⟩, rfl, ?_, ?_, ?_⟩
    · rw [hnv]; simp [Race.k, zeroEnt, zeroEntK, Ent.k]
    · refine EntR.mono (base := w.heap.size + 1) ?_ (by omega)
      have h0 := entR_zero HROW.out
      repeat (first | (with_reducible exact h0) | (with_reducible refine EntR.setOther ?_ (by omega) _))
    · repeat (first | (with_reducible exact HB1.out) | (with_reducible refine Below.setCell ?_ (by simp <;> omega) _))
set_option maxRecDepth 100000 in
set_option maxHeartbeats 4000000 in
theorem spec_NewRace (n : Int) (w : World) (hi : I64 n) :
    Calls Try.prog 13 #[.int .i64 n] w fun e w' => ∃ p' : Race, e = .returned (.tuple #[.agg #[.int .i64 p'.clock, .bool p'.closed, .slice p'.a p'.n p'.c], .bool (inB n 1 8)]) ∧ p'.k = newV n ∧ RaceR w.heap.size w' p' ∧ Below w.heap.size w w' := by
  have hb0 : Below w.heap.size w (w.alloc (.cells #[.int .i64 0, .bool false, .slice none 0 0] 24)) := below_alloc (Below.refl _ _) _
  have hl0 : LitAt (w.alloc (.cells #[.int .i64 0, .bool false, .slice none 0 0] 24)) w.heap.size 24 [.int .i64 0, .bool false, .slice none 0 0] := LitAt.new _ _ _ _ (by simp)
  have hz0 : (w.alloc (.cells #[.int .i64 0, .bool false, .slice none 0 0] 24)).heap.size = w.heap.size + 1 := by simp
  cases hq : inB n 1 8
  · have hnv : newV n = ⟨0, false, []⟩ := by simp [newV, hq]
    go_enter Try.func13, Try.ntmps13
    have hc0 := hl0.range 0 _ rfl
    have hc1 := hl0.range 1 _ rfl
    have hc2 := hl0.range 2 _ rfl
    have hf0 := hl0.frozen
    simp only [Nat.zero_add] at hc0 hc1 hc2
    go_wp2_with (go_at_call 58; refine (l1In_any _ _ _ _).mono ?_; rintro e w' ⟨rfl, rfl⟩; rw [hq])
    refine bodyPost_ret (v := .tuple #[.agg #[.int .i64 0, .bool false, .slice none 0 0], .bool false]) (by simp [results, Try.results13, go_sem, hc0, hc1, hc2]) rfl ⟨⟨0, false, none, 0, 0, []⟩, rfl, hnv.symm, ?_, ?_⟩
    · exact ⟨Row.nil _ _ _ _, by simp, by simp⟩
    · repeat (first | (with_reducible exact hb0) | (with_reducible refine Below.setCell ?_ (by simp <;> omega) _))
  · have hnb : 1 ≤ n ∧ n ≤ 8 := by simpa [inB] using hq
    obtain ⟨m, rfl⟩ : ∃ m : Nat, n = (m : Int) := ⟨n.toNat, by omega⟩
    have hnv : newV (m : Int) = ⟨0, false, List.replicate m zeroEntK⟩ := by simp [newV, hq]
    go_enter Try.func13, Try.ntmps13
    have hcc0 := hl0.range 0 _ rfl
    have hcc1 := hl0.range 1 _ rfl
    have hcc2 := hl0.range 2 _ rfl
    have hff0 := hl0.frozen
    simp only [Nat.zero_add] at hcc0 hcc1 hcc2
    go_wp2_with (first
      | (go_at_call 58; refine (l1In_any _ _ _ _).mono ?_; rintro e w' ⟨rfl, rfl⟩; rw [hq])
      | (refine tyEnt.make rfl _ _ rfl (w.heap.size + 1) m _ _ rfl rfl rfl rfl (by omega) (by rw [hz0]; exact Nat.le_refl _) ?_; intro w1 hrow1 hb1 hs1; have hl1 := hl0.below hb1; have hc0 := hl1.range 0 _ rfl; have hc1 := hl1.range 1 _ rfl; have hc2 := hl1.range 2 _ rfl; have hf0 := hl1.frozen; simp only [Nat.zero_add] at hc0 hc1 hc2; have HB1 := Lib.hid (step_ hb0 (Nat.le_refl _) hb1); have HROW := Lib.hid hrow1; clear hl1 hrow1 hb1 hcc0 hcc1 hcc2 hff0))
    rw [hz0] at HROW
    refine bodyPost_ret (v := .tuple #[.agg #[.int .i64 0, .bool false, .slice (some ⟨w.heap.size + 1, 0, none⟩) m m], .bool true]) (by simp [results, Try.results13, go_sem, hc0, hc1, hc2]) rfl ⟨⟨0, false, some ⟨w.heap.size + 1, 0, none⟩, m, m, List.replicate m zeroEnt⟩, rfl, ?_, ?_, ?_⟩
    · rw [hnv]; simp [Race.k, zeroEnt, zeroEntK, Ent.k]
    · refine EntR.mono (base := w.heap.size + 1) ?_ (by omega)
      have h0 := entR_zero HROW.out
      repeat (first | (with_reducible exact h0) | (with_reducible refine EntR.setOther ?_ (by omega) _))
    · repeat (first | (with_reducible exact HB1.out) | (with_reducible refine Below.setCell ?_ (by simp <;> omega) _))
end Go.Proofs.Ytfmgnbkneccekaa
