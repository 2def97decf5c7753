/- Slices of slices of integers of the call's own: comparisons, marks. No condition. -/
import Derived.Test.YtabgmbmaakglkaaHtM
import Derived.Test.YtabgmbmaakglkaaHtN
namespace Go.Proofs.Ytabgmbmaakglkaa
open Go Go.RowKit

/-- An inner slice: what it means, and where it lies. -/
structure IL where
  k : List Int
  a : Option Addr
  n : Nat
  c : Nat
abbrev IL.sv (p : IL) : Value := .slice p.a p.n p.c
def IL.lst (p : IL) : List Value := [.slice p.a p.n p.c]
theorem IL.lst_len (p : IL) : p.lst.length = 1 := rfl
theorem IL.one (p : IL) : ∀ u ∈ p.lst, u.oneCell' = true := by simp [IL.lst, Value.oneCell']
theorem tyIL : Ty Try.prog 37 22 (.slice none 0 0) [.slice none 0 0] 1 24 := ⟨Try.underlying37, by kernel_rfl, rfl, rfl, by decide, by decide⟩
def ILS (w : World) (v : Value) (xs : List IL) : Prop := Sl (Flat IL.lst) 1 w v xs ∧ ∀ p ∈ xs, Sl (Flat ints) 1 w p.sv p.k
theorem ILS.below {w w' : World} {v : Value} {xs : List IL} (h : ILS w v xs) (hb : Below w.heap.size w w') : ILS w' v xs := ⟨h.1.below (Flat.keeps _) hb, fun p hp => (h.2 p hp).below (Flat.keeps _) hb⟩
/-- Rows of the call's own, all apart. -/
def ILR (base : Nat) (w : World) (v : Value) (zs : List IL) : Prop :=
  Row base 22 1 w v (zs.map IL.lst) ∧ (∀ z ∈ zs, Row base 3 1 w z.sv (z.k.map ints) ∧ Dis z.sv v) ∧ zs.Pairwise fun p q => Dis p.sv q.sv
theorem ILR.below {base : Nat} {w w' : World} {v : Value} {zs : List IL} (h : ILR base w v zs) (hb : Below w.heap.size w w') : ILR base w' v zs :=
  ⟨h.1.below hb, fun z hz => ⟨(h.2.1 z hz).1.below hb, (h.2.1 z hz).2⟩, h.2.2⟩
theorem ILR.mono {base base' : Nat} {w : World} {v : Value} {zs : List IL} (h : ILR base w v zs) (hb : base' ≤ base) : ILR base' w v zs :=
  ⟨h.1.mono hb, fun z hz => ⟨(h.2.1 z hz).1.mono hb, (h.2.1 z hz).2⟩, h.2.2⟩
theorem ILR.s {base : Nat} {w : World} {v : Value} {zs : List IL} (h : ILR base w v zs) : ILS w v zs := ⟨Sl.of_flat h.1, fun z hz => Sl.of_flat (h.2.1 z hz).1⟩
theorem ILR.nil (w : World) (base : Nat) : ILR base w (.slice none 0 0) [] := ⟨Row.nil _ _ _ _, fun z hz => absurd hz (by simp), List.Pairwise.nil⟩
def ILBlk (v : Value) (zs : List IL) (k : Nat) : Prop := v.ownBlock = some k ∨ ∃ z ∈ zs, z.sv.ownBlock = some k
theorem ILR.lt {base : Nat} {w : World} {v : Value} {zs : List IL} (h : ILR base w v zs) : ∀ k, ILBlk v zs k → base ≤ k ∧ k < w.heap.size := by
  rintro k (hk | ⟨z, hz, hk⟩)
  · exact Row.lt h.1 k hk
  · exact Row.lt (h.2.1 z hz).1 k hk
theorem ILR.keptOff {base : Nat} {w w' : World} {v : Value} {zs : List IL} {S : Nat → Prop} (h : ILR base w v zs) (hg : KeptOff S w w') (hne : ∀ k, ILBlk v zs k → ¬ S k) : ILR base w' v zs :=
  ⟨Row.keptOff h.1 hg (fun k hk => hne k (.inl hk)), fun z hz => ⟨Row.keptOff (h.2.1 z hz).1 hg (fun k hk => hne k (.inr ⟨z, hz, hk⟩)), (h.2.1 z hz).2⟩, h.2.2⟩
/-- One inner slice more. -/
theorem ILR.push {base : Nat} {w w2 w3 : World} {v v' : Value} {zs : List IL} {z : IL} (h : ILR base w v zs) (hbase : base ≤ w.heap.size) (hb : Below w.heap.size w w2) (hz : Row w.heap.size 3 1 w2 z.sv (z.k.map ints))
    (hrow : Row base 22 1 w3 v' (zs.map IL.lst ++ [z.lst])) (hg : w2.grownBy w3 v.ownBlock) (hat : v'.ownBlock = v.ownBlock ∨ v'.ownBlock = some w2.heap.size) : ILR base w3 v' (zs ++ [z]) := by
  have hvlt : ∀ q, v.ownBlock = some q → q < w.heap.size := fun q hq => (Row.lt h.1 q hq).2
  have hzv : Dis z.sv v := (Dis.new (n := w.heap.size) hvlt (fun q hq => (Row.lt hz q hq).1)).symm
  refine ⟨by rw [List.map_append]; exact hrow, ?_, ?_⟩
  · intro y hy
    rcases List.mem_append.1 hy with hy | hy
    · obtain ⟨h1, h2⟩ := h.2.1 y hy
      exact ⟨(h1.below hb).kept hg h2.or, h2.grown hat (fun q hq => by have := (h1.lt q hq).2; have := hb.size; omega)⟩
    · rw [List.mem_singleton.1 hy]
      exact ⟨(hz.kept hg hzv.or).mono hbase, hzv.grown hat (fun q hq => (hz.lt q hq).2)⟩
  · refine List.pairwise_append.2 ⟨h.2.2, by simp, fun y hy q hq => ?_⟩
    rw [List.mem_singleton.1 hq]
    exact Dis.new (n := w.heap.size) (fun q hq => ((h.2.1 y hy).1.lt q hq).2) (fun q hq => (hz.lt q hq).1)
theorem ILR.lit {base g : Nat} {w : World} (hg : w.heap.size = g) (hb : base ≤ g) : ILR base (w.alloc (.cells #[] 22)) (.slice (some ⟨g, 0, none⟩) 0 0) [] := by
  subst hg
  exact ⟨Row.lit_nil w _ _ hb, fun z hz => absurd hz (by simp), List.Pairwise.nil⟩

theorem pair_row (wr : World) (a b : Int) (o : Obj) : Row wr.heap.size 3 1 (((wr.alloc (.cells #[.int .i64 a, .int .i64 b] 3)).alloc o).drew) (.slice (some ⟨wr.heap.size, 0, none⟩) 2 2) ([a, b].map ints) :=
  ((Row.lit wr 3 1 [ints a, ints b] (by intro y hy; simp at hy; rcases hy with rfl | rfl <;> rfl) (by simp [maxLen]) (Nat.le_refl _) #[.int .i64 a, .int .i64 b] rfl).alloc o).drew

set_option maxHeartbeats 1000000 in
theorem eqIntSS_refl (ps qs : List IL) (v v' : Value) (w : World) (h : ILS w v ps) (h' : ILS w v' qs) (hkk : ps.map IL.k = qs.map IL.k) :
    Calls Try.prog 23 #[v, v'] w fun e w' => e = .returned (.bool true) ∧ Below w.heap.size w w' := by
  have hl : ps.length = qs.length := by have := congrArg List.length hkk; simpa using this
  have HKE := Lib.hid (show ∀ k (h1 : k < ps.length) (h2 : k < qs.length), ps[k].k = qs[k].k by
    intro k h1 h2
    have : (ps.map IL.k)[k]? = (qs.map IL.k)[k]? := by rw [hkk]
    simpa [h1, h2] using this)
  have HI := Lib.hid h.2
  have HI' := Lib.hid h'.2
  obtain ⟨A, c, rfl, hc, hm, hk⟩ := h.1.open_
  obtain ⟨A', c', rfl, hc', hm', hk'⟩ := h'.1.open_
  obtain ⟨n, hn⟩ : ∃ n, qs.length = n := ⟨_, rfl⟩
  have HN := Lib.hid hn
  have hpn : ps.length = n := by rw [hl, hn]
  rw [hn] at hc'
  rw [hpn] at hc
  clear h h' hkk hl
  rw [hn, hpn]
  have HP := Lib.hid hpn
  clear hn hpn
  go_enter Try.func23, Try.ntmps23
  go_wp2
  go_loopw [5] (fun i wr => ∃ k : Nat, k ≤ n ∧ i = .int .i64 k ∧ Below w.heap.size w wr)
    (fun i _ => n - (intOf i).toNat)
  case atStart => exact ⟨0, Nat.zero_le _, rfl, Below.refl _ _⟩
  case round =>
    obtain ⟨k, hkl, rfl, hb⟩ := hrel
    by_cases hlt : k < n
    · have hlp : k < ps.length := by rw [HP.out]; exact hlt
      have hlq : k < qs.length := by rw [HN.out]; exact hlt
      obtain ⟨b, off, rfl, hat⟩ := flat_at hk (by omega)
      obtain ⟨b', off', rfl, hat'⟩ := flat_at hk' (by omega)
      have hr : wr.cell? ⟨b, off + k, none⟩ = some ps[k].sv := by have := (rangeAt_below (hat k hlp) hb) 0 _ rfl; simpa using this
      have hr' : wr.cell? ⟨b', off' + k, none⟩ = some qs[k].sv := by have := (rangeAt_below (hat' k hlq) hb) 0 _ rfl; simpa using this
      have hd := After.keep hr
      have hd' := After.keep hr'
      have HC := Lib.hid (fun (s : After wr) => eqIntS_refl ps[k].k ps[k].sv qs[k].sv s.w' (((HI.out _ (List.getElem_mem hlp)).below (Flat.keeps _) (step_ hb (Nat.le_refl _) s.hb))) (by rw [HKE.out k hlp hlq]; exact (HI'.out _ (List.getElem_mem hlq)).below (Flat.keeps _) (step_ hb (Nat.le_refl _) s.hb)))
      generalize ps[k].sv = pv at *
      generalize qs[k].sv = qv at *
      clear hat hat' hk hk' hr hr'
      go_wp2
      refine region_after (by kernel_rfl) (by kernel_rfl) ?_
      repeat (any_goals (first | go_big_quiet_step (((go_at_call 14; exact Calls.after (v := .bool true) _ (HC.out _))))  | quiet_step (((go_at_call 14; exact Calls.after (v := .bool true) _ (HC.out _)))) | (refine wpQuiet_step (fun K hK => ?_); go_simp; split <;> (refine hK _ ?_; clear hK K))))
      all_goals (refine wpQuiet_nil ?_; intro s)
      go_wp2
      go_roundw
      case rel => exact ⟨k + 1, by omega, by go_num, step_ hb (Nat.le_refl _) s.hb⟩
      case measure => simp [intOf]; omega
    · go_wp2
      go_ret
      exact ⟨rfl, hb⟩
end Go.Proofs.Ytabgmbmaakglkaa
