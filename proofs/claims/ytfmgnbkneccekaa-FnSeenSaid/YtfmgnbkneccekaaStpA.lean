/- A race that lies in a variable of the call's own: what steps write to it. No condition. -/
import Derived.Test.YtfmgnbkneccekaaStpQ
import Derived.Test.YtfmgnbkneccekaaRcF
import Derived.Test.YtfmgnbkneccekaaGrow
namespace Go.Proofs.Ytfmgnbkneccekaa
open Go Go.RowKit

/-- A race in a variable (block g) of the call's own. -/
def RaceAt (base : Nat) (w : World) (g : Nat) (p : Race) : Prop := LitAt w g 24 p.lst ∧ RaceR base w p ∧ ∀ k, RaceBlk p k → k ≠ g
theorem RaceAt.below {base g : Nat} {w w' : World} {p : Race} (h : RaceAt base w g p) (hb : Below w.heap.size w w') : RaceAt base w' g p := ⟨h.1.below hb, RaceR.below h.2.1 hb, h.2.2⟩
theorem RaceAt.cells {base g : Nat} {w : World} {p : Race} (h : RaceAt base w g p) : w.cell? ⟨g, 0, none⟩ = some (.int .i64 p.clock) ∧ w.cell? ⟨g, 1, none⟩ = some (.bool p.closed) ∧ w.cell? ⟨g, 2, none⟩ = some (.slice p.a p.n p.c) ∧ ∀ o, w.frozen? ⟨g, o, none⟩ = false := by
  have h0 := h.1.range 0 _ rfl
  have h1 := h.1.range 1 _ rfl
  have h2 := h.1.range 2 _ rfl
  simp only [Nat.zero_add] at h0 h1 h2
  exact ⟨h0, h1, h2, h.1.frozen⟩
theorem RaceAt.len {base g : Nat} {w : World} {p : Race} (h : RaceAt base w g p) : p.n = p.zs.length := (RaceR.s h.2.1).len
theorem RaceAt.form {base g n c : Nat} {w : World} {cl : Int} {cd : Bool} {A : Option Addr} {zs : List Ent} (h : RaceAt base w g ⟨cl, cd, A, n, c, zs⟩) (hn : 0 < zs.length) : ∃ q, A = some ⟨q, 0, none⟩ ∧ n = zs.length ∧ base ≤ q ∧ q < w.heap.size ∧ zs.length ≤ c ∧ q ≠ g := by
  obtain ⟨q, cap, hv, hb, hl, hc⟩ := Go.Proofs.Ytfmgnbkneccekaa.Row.form h.2.1.1 (by simpa using hn)
  simp only [Value.slice.injEq, List.length_map] at hv hc
  obtain ⟨hA, hn', rfl⟩ := hv
  refine ⟨q, hA, hn', hb, hl, hc, h.2.2 q (.inl ?_)⟩
  simp [Race.sv, Value.ownBlock, hA]
theorem EntR.cells {base q n c : Nat} {w : World} {zs : List Ent} (h : EntR base w (.slice (some ⟨q, 0, none⟩) n c) zs) {i : Nat} (hi : i < zs.length) : w.cell? ⟨q, i * 5, none⟩ = some (.int .i64 zs[i].state) ∧ w.cell? ⟨q, i * 5 + 1, none⟩ = some (.int .i64 zs[i].card.k.number) ∧ w.cell? ⟨q, i * 5 + 2, none⟩ = some (.int .i64 zs[i].card.k.start) ∧ w.cell? ⟨q, i * 5 + 3, none⟩ = some (.int .i64 zs[i].card.k.finish) ∧ w.cell? ⟨q, i * 5 + 4, none⟩ = some (.slice zs[i].card.a zs[i].card.n zs[i].card.c) ∧ ∀ o, w.frozen? ⟨q, o, none⟩ = false := by
  have hr := h.1.range (k := i) (by simpa using hi)
  have e : (zs.map Ent.lst)[i]'(by simpa using hi) = zs[i].lst := by simp
  rw [e] at hr
  obtain ⟨h0, h1, h2, h3, h4⟩ := Ent.cells hr
  exact ⟨h0, h1, h2, h3, h4, h.1.frozen⟩
theorem own_ne {z : Ent} {v : Value} (h : z.card.sv.ownBlock = none ∨ z.card.sv.ownBlock ≠ v.ownBlock) {q n c : Nat} (hv : v = .slice (some ⟨q, 0, none⟩) n c) : z.card.sv.ownBlock = none ∨ z.card.sv.ownBlock ≠ some q := by
  subst hv; exact h
/-- One entrant exchanged: its punches grown or new, its cells turned. -/
theorem RaceAt.swap {base g q n c : Nat} {w w1 w2 : World} {cl : Int} {cd : Bool} {zs : List Ent} (h : RaceAt base w g ⟨cl, cd, some ⟨q, 0, none⟩, n, c, zs⟩) {i : Nat} (hi : i < zs.length) (z' : Ent)
    (hin : Row base 89 2 w1 z'.card.sv (z'.card.k.punches.map Punch.lst)) (hg1 : w.grownBy w1 zs[i].card.sv.ownBlock)
    (hat : z'.card.sv.ownBlock = zs[i].card.sv.ownBlock ∨ ∀ k, z'.card.sv.ownBlock = some k → w.heap.size ≤ k)
    (hg2 : w1.grownBy w2 (some q)) (hrow : Row base 75 5 w2 (.slice (some ⟨q, 0, none⟩) n c) ((zs.map Ent.lst).set i z'.lst)) : RaceAt base w2 g ⟨cl, cd, some ⟨q, 0, none⟩, n, c, zs.set i z'⟩ := by
  obtain ⟨hL, hR, hne⟩ := h
  have hR' : EntR base w (.slice (some ⟨q, 0, none⟩) n c) zs := hR
  have hq : q < w.heap.size := (Go.Proofs.Ytfmgnbkneccekaa.Row.lt hR'.1 q rfl).2
  have hqg : q ≠ g := hne q (.inl rfl)
  have hzi := hR'.2.1 zs[i] (List.getElem_mem hi)
  have hziq : zs[i].card.sv.ownBlock ≠ some q := by
    rcases hzi.2 with e | e
    · rw [e]; simp
    · exact e
  have hzq : z'.card.sv.ownBlock = none ∨ z'.card.sv.ownBlock ≠ some q := by
    rcases hat with e | e
    · exact .inr (by rw [e]; exact hziq)
    · exact .inr (fun e2 => by have := e q e2; omega)
  have hap : ∀ j (hj : j < zs.length), j ≠ i → zs[j].card.sv.ownBlock = none ∨ zs[j].card.sv.ownBlock ≠ zs[i].card.sv.ownBlock := by
    intro j hj hne
    rcases Nat.lt_or_ge j i with hij | hij
    · exact List.pairwise_iff_getElem.1 hR'.2.2 j i hj hi hij
    · rcases List.pairwise_iff_getElem.1 hR'.2.2 i j hi hj (by omega) with h' | h'
      · rw [h']
        by_cases hn : zs[j].card.sv.ownBlock = none
        · exact .inl hn
        · exact .inr hn
      · exact .inr (fun e => h' e.symm)
  have hap2 : ∀ j (hj : j < zs.length), j ≠ i → zs[j].card.sv.ownBlock = none ∨ zs[j].card.sv.ownBlock ≠ z'.card.sv.ownBlock := by
    intro j hj hne
    rcases hat with e | e
    · rw [e]; exact hap j hj hne
    · cases hb : zs[j].card.sv.ownBlock with
      | none => exact .inl rfl
      | some b =>
        refine .inr (fun e2 => ?_)
        have h1 := (Go.Proofs.Ytfmgnbkneccekaa.Row.lt (hR'.2.1 zs[j] (List.getElem_mem hj)).1 b hb).2
        have h2 := e b e2.symm
        omega
  refine ⟨?_, ⟨?_, ?_, ?_⟩, ?_⟩
  · refine (hL.grown hg1 (fun e => hne g (.inr ⟨zs[i], List.getElem_mem hi, e⟩) rfl)).grown hg2 (fun e => hqg (by simpa using e))
  · show Row base 75 5 w2 (.slice (some ⟨q, 0, none⟩) n c) ((zs.set i z').map Ent.lst)
    rw [List.map_set]; exact hrow
  · intro y hy
    obtain ⟨j, hj, rfl⟩ := List.getElem_of_mem hy
    simp only [List.length_set] at hj
    by_cases e : i = j
    · subst e
      simp only [List.getElem_set_self]
      exact ⟨hin.kept hg2 hzq, hzq⟩
    · simp only [List.getElem_set_ne e]
      have h1 := hR'.2.1 zs[j] (List.getElem_mem hj)
      exact ⟨(h1.1.kept hg1 (hap j hj (fun h => e h.symm))).kept hg2 h1.2, h1.2⟩
  · rw [List.pairwise_iff_getElem]
    intro a b ha hb hab
    simp only [List.length_set] at ha hb
    unfold Ent.Ap
    by_cases e1 : i = a
    · subst e1
      simp only [List.getElem_set_self, List.getElem_set_ne (show i ≠ b by omega)]
      rcases hap2 b hb (by omega) with e | e
      · rw [e]
        by_cases hn : z'.card.sv.ownBlock = none
        · exact .inl hn
        · exact .inr hn
      · exact .inr (fun e2 => e e2.symm)
    · by_cases e2 : i = b
      · subst e2
        simp only [List.getElem_set_self, List.getElem_set_ne e1]
        exact hap2 a ha (by omega)
      · simp only [List.getElem_set_ne e1, List.getElem_set_ne e2]
        exact List.pairwise_iff_getElem.1 hR'.2.2 a b ha hb hab
  · rintro k (hk | ⟨y, hy, hk⟩)
    · exact hne k (.inl hk)
    · obtain ⟨j, hj, rfl⟩ := List.getElem_of_mem hy
      simp only [List.length_set] at hj
      by_cases e : i = j
      · subst e
        simp only [List.getElem_set_self] at hk
        rcases hat with e | e
        · rw [e] at hk; exact hne k (.inr ⟨zs[i], List.getElem_mem hi, hk⟩)
        · have := e k hk
          have := hL.lt
          omega
      · simp only [List.getElem_set_ne e] at hk
        exact hne k (.inr ⟨zs[j], List.getElem_mem hj, hk⟩)
theorem RaceAt.turn {base g q n c : Nat} {w w2 : World} {cl : Int} {cd : Bool} {zs : List Ent} (h : RaceAt base w g ⟨cl, cd, some ⟨q, 0, none⟩, n, c, zs⟩) {i : Nat} (hi : i < zs.length) (z' : Ent)
    (hs : z'.card.sv = zs[i].card.sv) (hp : z'.card.k.punches = zs[i].card.k.punches) (hg2 : w.grownBy w2 (some q)) (hrow : Row base 75 5 w2 (.slice (some ⟨q, 0, none⟩) n c) ((zs.map Ent.lst).set i z'.lst)) : RaceAt base w2 g ⟨cl, cd, some ⟨q, 0, none⟩, n, c, zs.set i z'⟩ :=
  h.swap hi z' (by rw [hs, hp]; exact (h.2.1.2.1 zs[i] (List.getElem_mem hi)).1) (World.grownBy.refl _ _) (.inl (by rw [hs])) hg2 hrow
/-- The variable's own cells turned. -/
theorem RaceAt.put {base g : Nat} {w : World} {p p' : Race} (h : RaceAt base w g p) (j : Nat) (u : Value) (hl : p.lst.set j u = p'.lst) (hs : p'.sv = p.sv) (hz : p'.zs = p.zs) : RaceAt base (w.setCell ⟨g, j, none⟩ u) g p' := by
  obtain ⟨hL, hR, hne⟩ := h
  have hne' : ∀ k, EntBlk p.sv p.zs k → k ≠ g := hne
  refine ⟨by rw [← hl]; exact LitAt.set hL j u, ?_, ?_⟩
  · show EntR base _ p'.sv p'.zs
    rw [hs, hz]
    exact EntR.setNe hR hne' u
  · intro k hk
    have : EntBlk p'.sv p'.zs k := hk
    rw [hs, hz] at this
    exact hne k this
theorem entrants_below {base g : Nat} {w : World} {p : Race} (h : RaceAt base w g p) : ∀ k, RaceBlk p k → base ≤ k := fun k hk => (RaceR.lt h.2.1 k hk).1
theorem LitAt.keptOff {e : TypeId} {w w' : World} {g : Nat} {cs : List Value} {S : Nat → Prop} (h : LitAt w g e cs) (hk : KeptOff S w w') (hne : ¬ S g) : LitAt w' g e cs := by
  unfold LitAt
  rw [hk.block g h.lt hne]
  exact h
/-- One entrant exchanged, told by what is kept. -/
theorem RaceAt.exchX {X : Nat → Prop} {base g q n c : Nat} {w w2 : World} {cl : Int} {cd : Bool} {zs : List Ent} (h : RaceAt base w g ⟨cl, cd, some ⟨q, 0, none⟩, n, c, zs⟩) {i : Nat} (hi : i < zs.length) (z' : Ent)
    (hin : Row base 89 2 w2 z'.card.sv (z'.card.k.punches.map Punch.lst)) (hk : KeptOff (fun k => (k = q ∨ zs[i].card.sv.ownBlock = some k) ∨ X k) w w2) (hX : ∀ k, X k → k ≠ g ∧ ¬ EntBlk (.slice (some ⟨q, 0, none⟩) n c) zs k)
    (hat : z'.card.sv.ownBlock = zs[i].card.sv.ownBlock ∨ ∀ k, z'.card.sv.ownBlock = some k → w.heap.size ≤ k)
    (hrow : Row base 75 5 w2 (.slice (some ⟨q, 0, none⟩) n c) ((zs.map Ent.lst).set i z'.lst)) : RaceAt base w2 g ⟨cl, cd, some ⟨q, 0, none⟩, n, c, zs.set i z'⟩ := by
  obtain ⟨hL, hR, hne⟩ := h
  have hR' : EntR base w (.slice (some ⟨q, 0, none⟩) n c) zs := hR
  have hq : q < w.heap.size := (Go.Proofs.Ytfmgnbkneccekaa.Row.lt hR'.1 q rfl).2
  have hqg : q ≠ g := hne q (.inl rfl)
  have hzi := hR'.2.1 zs[i] (List.getElem_mem hi)
  have hziq : zs[i].card.sv.ownBlock ≠ some q := by
    rcases hzi.2 with e | e
    · rw [e]; simp
    · exact e
  have hzq : z'.card.sv.ownBlock = none ∨ z'.card.sv.ownBlock ≠ some q := by
    rcases hat with e | e
    · exact .inr (by rw [e]; exact hziq)
    · exact .inr (fun e2 => by have := e q e2; omega)
  have hap : ∀ j (hj : j < zs.length), j ≠ i → zs[j].card.sv.ownBlock = none ∨ zs[j].card.sv.ownBlock ≠ zs[i].card.sv.ownBlock := by
    intro j hj hne
    rcases Nat.lt_or_ge j i with hij | hij
    · exact List.pairwise_iff_getElem.1 hR'.2.2 j i hj hi hij
    · rcases List.pairwise_iff_getElem.1 hR'.2.2 i j hi hj (by omega) with h' | h'
      · rw [h']
        by_cases hn : zs[j].card.sv.ownBlock = none
        · exact .inl hn
        · exact .inr hn
      · exact .inr (fun e => h' e.symm)
  have hap2 : ∀ j (hj : j < zs.length), j ≠ i → zs[j].card.sv.ownBlock = none ∨ zs[j].card.sv.ownBlock ≠ z'.card.sv.ownBlock := by
    intro j hj hne
    rcases hat with e | e
    · rw [e]; exact hap j hj hne
    · cases hb : zs[j].card.sv.ownBlock with
      | none => exact .inl rfl
      | some b =>
        refine .inr (fun e2 => ?_)
        have h1 := (Go.Proofs.Ytfmgnbkneccekaa.Row.lt (hR'.2.1 zs[j] (List.getElem_mem hj)).1 b hb).2
        have h2 := e b e2.symm
        omega
  refine ⟨?_, ⟨?_, ?_, ?_⟩, ?_⟩
  · refine hL.keptOff hk (fun e => ?_)
    rcases e with (e | e) | e
    · exact hqg e.symm
    · exact hne g (.inr ⟨zs[i], List.getElem_mem hi, e⟩) rfl
    · exact (hX g e).1 rfl
  · show Row base 75 5 w2 (.slice (some ⟨q, 0, none⟩) n c) ((zs.set i z').map Ent.lst)
    rw [List.map_set]; exact hrow
  · intro y hy
    obtain ⟨j, hj, rfl⟩ := List.getElem_of_mem hy
    simp only [List.length_set] at hj
    by_cases e : i = j
    · subst e
      simp only [List.getElem_set_self]
      exact ⟨hin, hzq⟩
    · simp only [List.getElem_set_ne e]
      have h1 := hR'.2.1 zs[j] (List.getElem_mem hj)
      refine ⟨Row.keptOff h1.1 hk (fun k hkk hs => ?_), h1.2⟩
      rcases hs with (hs | hs) | hs
      · subst hs
        rcases h1.2 with h2 | h2
        · rw [h2] at hkk; cases hkk
        · exact h2 hkk
      · rcases hap j hj (fun h => e h.symm) with h2 | h2
        · rw [h2] at hkk; cases hkk
        · exact h2 (hkk.trans hs.symm)
      · exact (hX k hs).2 (.inr ⟨zs[j], List.getElem_mem hj, hkk⟩)
  · rw [List.pairwise_iff_getElem]
    intro a b ha hb hab
    simp only [List.length_set] at ha hb
    unfold Ent.Ap
    by_cases e1 : i = a
    · subst e1
      simp only [List.getElem_set_self, List.getElem_set_ne (show i ≠ b by omega)]
      rcases hap2 b hb (by omega) with e | e
      · rw [e]
        by_cases hn : z'.card.sv.ownBlock = none
        · exact .inl hn
        · exact .inr hn
      · exact .inr (fun e2 => e e2.symm)
    · by_cases e2 : i = b
      · subst e2
        simp only [List.getElem_set_self, List.getElem_set_ne e1]
        exact hap2 a ha (by omega)
      · simp only [List.getElem_set_ne e1, List.getElem_set_ne e2]
        exact List.pairwise_iff_getElem.1 hR'.2.2 a b ha hb hab
  · rintro k (hk | ⟨y, hy, hk⟩)
    · exact hne k (.inl hk)
    · obtain ⟨j, hj, rfl⟩ := List.getElem_of_mem hy
      simp only [List.length_set] at hj
      by_cases e : i = j
      · subst e
        simp only [List.getElem_set_self] at hk
        rcases hat with e | e
        · rw [e] at hk; exact hne k (.inr ⟨zs[i], List.getElem_mem hi, hk⟩)
        · have := e k hk
          have := hL.lt
          omega
      · simp only [List.getElem_set_ne e] at hk
        exact hne k (.inr ⟨zs[j], List.getElem_mem hj, hk⟩)
theorem KeptOff.mono {S S' : Nat → Prop} {a b : World} (h : KeptOff S a b) (hs : ∀ k, S k → S' k) : KeptOff S' a b := ⟨h.os, h.tape, h.output, h.size, fun i hi hn => h.block i hi (fun hk => hn (hs i hk))⟩
theorem RaceAt.exch {base g q n c : Nat} {w w2 : World} {cl : Int} {cd : Bool} {zs : List Ent} (h : RaceAt base w g ⟨cl, cd, some ⟨q, 0, none⟩, n, c, zs⟩) {i : Nat} (hi : i < zs.length) (z' : Ent)
    (hin : Row base 89 2 w2 z'.card.sv (z'.card.k.punches.map Punch.lst)) (hk : KeptOff (fun k => k = q ∨ zs[i].card.sv.ownBlock = some k) w w2)
    (hat : z'.card.sv.ownBlock = zs[i].card.sv.ownBlock ∨ ∀ k, z'.card.sv.ownBlock = some k → w.heap.size ≤ k)
    (hrow : Row base 75 5 w2 (.slice (some ⟨q, 0, none⟩) n c) ((zs.map Ent.lst).set i z'.lst)) : RaceAt base w2 g ⟨cl, cd, some ⟨q, 0, none⟩, n, c, zs.set i z'⟩ :=
  h.exchX (X := fun _ => False) hi z' hin (hk.mono fun k hk => .inl hk) (fun k hk => hk.elim) hat hrow
theorem below_keptOff {S : Nat → Prop} {B : Nat} {a b c : World} (h : Below B a b) (hk : KeptOff S b c) (hS : ∀ k, S k → B ≤ k) (hB : B ≤ b.heap.size) : Below B a c :=
  ⟨hk.os.trans h.os, hk.tape.trans h.tape, hk.output.trans h.output, Nat.le_trans h.size hk.size, fun k hkB => (hk.block k (by omega) (fun hs => by have := hS k hs; omega)).trans (h.block k hkB)⟩
theorem EntR.cells' {base q n c : Nat} {w : World} {zs : List Ent} (h : EntR base w (.slice (some ⟨q, 0, none⟩) n c) zs) {i : Nat} (hi : i < zs.length) {z : Ent} (hz : zs[i] = z) : w.cell? ⟨q, i * 5, none⟩ = some (.int .i64 z.state) ∧ w.cell? ⟨q, i * 5 + 1, none⟩ = some (.int .i64 z.card.k.number) ∧ w.cell? ⟨q, i * 5 + 2, none⟩ = some (.int .i64 z.card.k.start) ∧ w.cell? ⟨q, i * 5 + 3, none⟩ = some (.int .i64 z.card.k.finish) ∧ w.cell? ⟨q, i * 5 + 4, none⟩ = some (.slice z.card.a z.card.n z.card.c) ∧ ∀ o, w.frozen? ⟨q, o, none⟩ = false := by
  subst hz; exact EntR.cells h hi
theorem entB_out {p : Race} {s : Step} (h : inB s.entrant 0 ((p.zs.length : Int) - 1) = false) : entB p.k s = false := by
  simp [entB, Race.k, h]
theorem entB_at {p : Race} {s : Step} {i : Nat} (hi : i < p.zs.length) (hs : s.entrant = (i : Int)) : entB p.k s = entStepB p.zs[i].k s := by
  have h1 : inB (i : Int) 0 ((p.zs.length : Int) - 1) = true := inB_true (by omega) (by omega)
  simp [entB, Race.k, hs, hi, h1]
theorem entV_at {cl : Int} {cd : Bool} {A : Option Addr} {n c : Nat} {zs : List Ent} {s : Step} {i : Nat} {z' : Ent} (hi : i < zs.length) (hs : s.entrant = (i : Int)) (hz : z'.k = entStepV cl i zs[i].k s) :
    Race.k ⟨cl, cd, A, n, c, zs.set i z'⟩ = entV (Race.k ⟨cl, cd, A, n, c, zs⟩) s := by
  have e : s.entrant.toNat = i := by omega
  simp only [Race.k, entV, RaceK.mk.injEq, true_and, e, List.map_set]
  apply List.ext_getElem?
  intro j
  rw [List.getElem?_set, List.getElem?_modify]
  by_cases h : i = j
  · subst h; simp [hi, hz]
  · simp [h]
theorem KeptOff.alloc {S : Nat → Prop} {a b : World} (h : KeptOff S a b) (o : Obj) : KeptOff S a (b.alloc o) := h.trans (KeptOff.of_below (below_alloc (Below.refl _ _) o))
theorem KeptOff.drew {S : Nat → Prop} {a b : World} (h : KeptOff S a b) : KeptOff S a b.drew := h.trans (KeptOff.of_below (Below.refl _ _).drew)
theorem KeptOff.setCell {S : Nat → Prop} {a b : World} (h : KeptOff S a b) {q o : Nat} (hq : S q) (u : Value) : KeptOff S a (b.setCell ⟨q, o, none⟩ u) :=
  h.trans (KeptOff.of_grown (row := some q) ⟨rfl, rfl, rfl, by simp, fun k _ hne => Below.heap_setCell _ _ _ _ (fun e => hne (by rw [e]))⟩ (fun k hk => by rw [← Option.some.inj hk]; exact hq))
theorem KeptOff.setCell1 {a b : World} {q o : Nat} (h : KeptOff (fun k => k = q) a b) (u : Value) : KeptOff (fun k => k = q) a (b.setCell ⟨q, o, none⟩ u) := h.setCell rfl u
theorem KeptOff.cell {S : Nat → Prop} {a b : World} (h : KeptOff S a b) {g o : Nat} {u : Value} (hc : a.cell? ⟨g, o, none⟩ = some u) (hg : ¬ S g) : b.cell? ⟨g, o, none⟩ = some u := by
  have := h.block g (block_lt_of_cell hc) hg
  unfold World.cell? at hc ⊢
  rw [this]; exact hc
end Go.Proofs.Ytfmgnbkneccekaa
