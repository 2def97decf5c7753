/- The law's marks on passings, outright. No condition. -/
import Derived.Test.YtbeonigmcbipeaaPasM
import Derived.Test.YtbeonigmcbipeaaFrame
namespace Go.Proofs.Ytbeonigmcbipeaa
open Go Go.RowKit
/-- A guard: the operation is a store of this type, in this world. -/
theorem at_store_ (t : TypeId) {P : Program} {ops : Array Oper} {Q : Exit → Act → World → Prop} {d : Option Tmp} {x y : Operand} {ty : TypeId} {pos : String} {af : Array Edge} {g : Option (Nat × Bool)} {rest : List Oper} {a : Act} {w : World}
    (h : wpList P ops Q (⟨d, .store t x y, ty, pos, af, g⟩ :: rest) a w) : wpList P ops Q (⟨d, .store t x y, ty, pos, af, g⟩ :: rest) a w := h

/-- The blocks of a copy. -/
def PasBlk (v : Value) (zs : List Pas) (k : Nat) : Prop := v.ownBlock = some k ∨ ∃ z ∈ zs, z.sv.ownBlock = some k
theorem PasR.lt {base : Nat} {w : World} {v : Value} {zs : List Pas} (h : PasR base w v zs) : ∀ k, PasBlk v zs k → base ≤ k ∧ k < w.heap.size := by
  rintro k (hk | ⟨z, hz, hk⟩)
  · exact Go.Proofs.Ytbeonigmcbipeaa.Row.lt h.1 k hk
  · exact Go.Proofs.Ytbeonigmcbipeaa.Row.lt (h.2.1 z hz).1 k hk
/-- One marked. -/
def pasMark (k : Int) (n : Nat) : PK := ⟨k, intMarks (k + 1) n⟩
def pasMarks : Int → List Nat → List PK
  | _, [] => []
  | k, n :: ns => pasMark k n :: pasMarks (k + 1 + (1 * n : Nat)) ns
def pasEnd : Int → List Nat → Int
  | k, [] => k
  | k, n :: ns => pasEnd (k + 1 + (1 * n : Nat)) ns
theorem pasMarks_len : ∀ (ns : List Nat) (k : Int), (pasMarks k ns).length = ns.length
  | [], _ => rfl
  | n :: ns, k => by simp [pasMarks, pasMarks_len ns]
theorem pasEnd_step : ∀ (ns : List Nat) (k : Int) (j : Nat) (h : j < ns.length), pasEnd k (ns.take (j + 1)) = pasEnd k (ns.take j) + 1 + (1 * ns[j] : Nat)
  | [], _, j, h => absurd h (by simp)
  | n :: ns, k, 0, _ => by simp [pasEnd]
  | n :: ns, k, j + 1, h => by
    simp only [List.take_succ_cons, pasEnd, List.getElem_cons_succ]
    exact pasEnd_step ns _ j (by simpa using h)
theorem pasMarks_get : ∀ (ns : List Nat) (k : Int) (j : Nat) (h : j < ns.length) (h' : j < (pasMarks k ns).length), (pasMarks k ns)[j] = pasMark (pasEnd k (ns.take j)) ns[j]
  | [], _, j, h, _ => absurd h (by simp)
  | n :: ns, k, 0, _, _ => by simp [pasMarks, pasEnd]
  | n :: ns, k, j + 1, h, h' => by
    simp only [pasMarks, List.getElem_cons_succ, List.take_succ_cons, pasEnd]
    exact pasMarks_get ns _ j (by simpa using h) _
theorem pasEnd_le : ∀ (ns : List Nat) (k : Int) (j : Nat), (∀ n ∈ ns, n ≤ 1048576) → j ≤ ns.length → k ≤ pasEnd k (ns.take j) ∧ pasEnd k (ns.take j) ≤ k + 2097170 * j
  | ns, k, 0, _, _ => by simp [pasEnd]
  | ns, k, j + 1, hn, hj => by
    obtain ⟨h1, h2⟩ := pasEnd_le ns k j hn (by omega)
    have h3 := hn ns[j] (List.getElem_mem (by omega))
    rw [pasEnd_step ns k j (by omega)]
    omega
def pasLens (zs : List Pas) : List Nat := zs.map fun z => z.k.splits.length
theorem pasMarks_lens : ∀ (ns : List Nat) (k : Int), (pasMarks k ns).map (fun z => z.splits.length) = ns
  | [], _ => rfl
  | n :: ns, k => by simp [pasMarks, pasMarks_lens ns, pasMark, intMarks_len]
/-- One element turned in place. -/
theorem PasR.upd {base : Nat} {w w1 w2 : World} {v : Value} {zz : List Pas} (h : PasR base w v zz) {j : Nat} (hj : j < zz.length) (z' : Pas) (ha : z'.sv = zz[j].sv)
    (hrow : Row base 49 2 w1 v ((zz.map Pas.lst).set j z'.lst)) (hg1 : w.grownBy w1 v.ownBlock) (hin : Row base 3 1 w2 z'.sv (z'.k.splits.map ints)) (hg2 : w1.grownBy w2 z'.sv.ownBlock) : PasR base w2 v (zz.set j z') := by
  have hz := h.2.1 zz[j] (List.getElem_mem hj)
  have hap : ∀ i (hi : i < zz.length), i ≠ j → zz[i].sv.ownBlock = none ∨ zz[i].sv.ownBlock ≠ z'.sv.ownBlock := by
    intro i hi hne
    rw [ha]
    rcases Nat.lt_or_ge i j with hij | hij
    · exact List.pairwise_iff_getElem.1 h.2.2 i j hi hj hij
    · rcases List.pairwise_iff_getElem.1 h.2.2 j i hj hi (by omega) with h' | h'
      · rw [h']
        by_cases hn : zz[i].sv.ownBlock = none
        · exact .inl hn
        · exact .inr hn
      · exact .inr (fun e => h' e.symm)
  refine ⟨?_, ?_, ?_⟩
  · rw [List.map_set]
    refine Row.kept hrow hg2 ?_
    rcases hz.2 with h' | h'
    · rw [ha, h']
      by_cases hn : v.ownBlock = none
      · exact .inl hn
      · exact .inr hn
    · rw [ha]; exact .inr (fun e => h' e.symm)
  · intro z hzm
    obtain ⟨i, hi, rfl⟩ := List.getElem_of_mem hzm
    have hi' : i < zz.length := by simpa using hi
    by_cases e : j = i
    · subst e
      rw [List.getElem_set_self]
      exact ⟨hin, by rw [ha]; exact hz.2⟩
    · rw [List.getElem_set_ne e]
      have h1 := h.2.1 zz[i] (List.getElem_mem hi')
      exact ⟨Row.kept (Row.kept h1.1 hg1 h1.2) hg2 (hap i hi' (fun h => e h.symm)), h1.2⟩
  · rw [List.pairwise_iff_getElem]
    have hsv : ∀ i (hi : i < (zz.set j z').length), ((zz.set j z')[i]).sv = (zz[i]'(by simpa using hi)).sv := by
      intro i hi
      by_cases e : j = i
      · subst e; rw [List.getElem_set_self]; exact ha
      · rw [List.getElem_set_ne e]
    intro i k hi hk hik
    have := List.pairwise_iff_getElem.1 h.2.2 i k (by simpa using hi) (by simpa using hk) hik
    unfold Pas.Ap at this ⊢
    rw [hsv i hi, hsv k hk]
    exact this
/-- One element more. -/
theorem PasR.push {base : Nat} {w w2 w3 : World} {v v' : Value} {zs : List Pas} {z : Pas} (h : PasR base w v zs) (hbase : base ≤ w.heap.size) (hb : Below w.heap.size w w2) (hz : Row w.heap.size 3 1 w2 z.sv (z.k.splits.map ints))
    (hrow : Row base 49 2 w3 v' (zs.map Pas.lst ++ [z.lst])) (hg : w2.grownBy w3 v.ownBlock) (hat : v'.ownBlock = v.ownBlock ∨ v'.ownBlock = some w2.heap.size) : PasR base w3 v' (zs ++ [z]) := by
  have hvlt : ∀ q, v.ownBlock = some q → q < w.heap.size := fun q hq => (Go.Proofs.Ytbeonigmcbipeaa.Row.lt h.1 q hq).2
  have hne : ∀ q, z.sv.ownBlock = some q → w.heap.size ≤ q ∧ q < w2.heap.size := fun q hq => Go.Proofs.Ytbeonigmcbipeaa.Row.lt hz q hq
  refine ⟨by rw [List.map_append]; exact hrow, ?_, ?_⟩
  · intro y hy
    rcases List.mem_append.1 hy with hy | hy
    · obtain ⟨h1, h2⟩ := h.2.1 y hy
      refine ⟨Row.kept (h1.below hb) hg h2, ?_⟩
      rcases hat with e | e
      · rw [e]; exact h2
      · rw [e]
        refine .inr (fun e2 => ?_)
        have h3 := (Go.Proofs.Ytbeonigmcbipeaa.Row.lt h1 _ e2).2
        have h4 := hb.size
        omega
    · rw [List.mem_singleton.1 hy]
      have hzn : ∀ u : Option Nat, (∀ q, u = some q → q < w.heap.size ∨ q = w2.heap.size) → z.sv.ownBlock = none ∨ z.sv.ownBlock ≠ u := fun u hu => by
        cases hz0 : z.sv.ownBlock with
        | none => exact .inl rfl
        | some q =>
          refine .inr (fun e => ?_)
          have h3 := hne q hz0
          rcases hu q e.symm with h4 | h4 <;> omega
      refine ⟨Row.mono (Row.kept hz hg (hzn _ fun q hq => .inl (hvlt q hq))) hbase, hzn _ fun q hq => ?_⟩
      rcases hat with e | e
      · rw [e] at hq; exact .inl (hvlt q hq)
      · rw [e] at hq; exact .inr (by simpa using hq.symm)
  · refine List.pairwise_append.2 ⟨h.2.2, by simp, fun y hy q hq => ?_⟩
    rw [List.mem_singleton.1 hq]
    unfold Pas.Ap
    cases hy0 : y.sv.ownBlock with
    | none => exact .inl rfl
    | some g =>
      refine .inr (fun e => ?_)
      have h1 := (Go.Proofs.Ytbeonigmcbipeaa.Row.lt (h.2.1 y hy).1 g hy0).2
      have h2 := (hne g e.symm).1
      omega
theorem PasR.lit {base g : Nat} {w : World} (hg : w.heap.size = g) (hb : base ≤ g) : PasR base (w.alloc (.cells #[] 49)) (.slice (some ⟨g, 0, none⟩) 0 0) [] := by
  subst hg
  exact ⟨Row.lit_nil w _ _ hb, fun z hz => absurd hz (by simp), List.Pairwise.nil⟩
/-- In the midst of marking: j done. -/
def PasLike (k0 : Int) (ns : List Nat) (zz zs : List Pas) (j : Nat) : Prop := zz.length = zs.length ∧ ∀ i (h : i < zz.length) (h' : i < zs.length) (hn : i < ns.length),
  zz[i].sv = zs[i].sv ∧ zz[i].k.splits.length = ns[i] ∧ (i < j → zz[i].k = pasMark (pasEnd k0 (ns.take i)) ns[i])
theorem PasLike.step {k0 : Int} {ns : List Nat} {zz zs : List Pas} {j : Nat} (h : PasLike k0 ns zz zs j) (hj : j < zz.length) (hjn : j < ns.length) (z' : Pas) (ha : z'.sv = zz[j].sv) (hk : z'.k = pasMark (pasEnd k0 (ns.take j)) ns[j]) : PasLike k0 ns (zz.set j z') zs (j + 1) := by
  refine ⟨by simpa using h.1, fun i hi h' hn => ?_⟩
  have hi' : i < zz.length := by simpa using hi
  by_cases e : j = i
  · subst e
    rw [List.getElem_set_self]
    refine ⟨by rw [ha]; exact (h.2 j hi' h' hn).1, ?_, fun _ => hk⟩
    have := congrArg (fun q : PK => q.splits.length) hk
    simpa [pasMark, intMarks_len, Pas.k] using this
  · rw [List.getElem_set_ne e]
    obtain ⟨h1, h2, h3⟩ := h.2 i hi' h' hn
    exact ⟨h1, h2, fun hij => h3 (by omega)⟩
theorem PasLike.all {k0 : Int} {ns : List Nat} {zz zs : List Pas} (h : PasLike k0 ns zz zs zs.length) (hn : ns.length = zs.length) : zz.map Pas.k = pasMarks k0 ns := by
  apply List.ext_getElem (by rw [List.length_map, h.1, pasMarks_len, hn])
  intro i h1 h2
  rw [List.getElem_map, pasMarks_get ns k0 i (by rw [pasMarks_len] at h2; exact h2)]
  have hi : i < zz.length := by simpa using h1
  exact (h.2 i hi (by rw [← h.1]; exact hi) (by rw [hn, ← h.1]; exact hi)).2.2 (by rw [← h.1]; exact hi)


set_option maxRecDepth 100000 in
set_option maxHeartbeats 4000000 in
theorem markPassingS_any (base : Nat) (v : Value) (zs : List Pas) (k0 : Int) (w : World) (h : PasR base w v zs) (h0 : 0 ≤ k0) (h1 : k0 ≤ 4398046511104) (hl : zs.length ≤ 1048576 ∧ ∀ z ∈ zs, z.k.splits.length ≤ 1048576) :
    Calls Try.prog 23 #[v, .int .i64 k0] w fun e w' => e = .returned (.int .i64 (pasEnd k0 (pasLens zs))) ∧ (∃ zz, PasR base w' v zz ∧ zz.map Pas.k = pasMarks k0 (pasLens zs)) ∧ KeptOff (PasBlk v zs) w w' := by
  obtain ⟨hl1, hl2⟩ := hl
  obtain ⟨ns, hns⟩ : ∃ ns, ns = pasLens zs := ⟨_, rfl⟩
  have hnl : ns.length = zs.length := by rw [hns]; simp [pasLens]
  have HNS := Lib.hid (show ∀ n ∈ ns, n ≤ 1048576 by
    intro n hn
    rw [hns] at hn
    obtain ⟨z, hz, rfl⟩ := List.mem_map.1 hn
    exact hl2 z hz)
  have HL0 := Lib.hid (show PasLike k0 ns zs zs 0 from ⟨rfl, fun i h h' hn => ⟨rfl, by simp only [hns, pasLens, List.getElem_map], fun h => absurd h (by omega)⟩⟩)
  rw [← hns]
  have HNL := Lib.hid hnl
  clear hns hl2
  by_cases hn : 0 < zs.length
  · obtain ⟨g, cap, rfl, hb, hgl, hcap⟩ := Go.Proofs.Ytbeonigmcbipeaa.Row.form h.1 (by simpa using hn)
    have hcm : cap ≤ 9223372036854775807 := by
      obtain ⟨_, _, h1, _, h3⟩ := h.1.parts
      simp only [Value.slice.injEq] at h1
      omega
    have hR := h
    clear h
    simp only [List.length_map] at hcap hR ⊢
    go_enter Try.func23, Try.ntmps23
    go_wp2
    go_loopw [1, 5] (fun kk i wr => ∃ (j : Nat) (m : Int) (zz : List Pas), j ≤ zs.length ∧ i = .int .i64 j ∧ kk = .int .i64 m ∧ Hid (m = pasEnd k0 (ns.take j)) ∧ PasR base wr (.slice (some ⟨g, 0, none⟩) zs.length cap) zz ∧ Hid (PasLike k0 ns zz zs j) ∧ KeptOff (PasBlk (.slice (some ⟨g, 0, none⟩) zs.length cap) zs) w wr)
      (fun _ i _ => zs.length - (intOf i).toNat)
    case atStart => exact ⟨0, k0, zs, Nat.zero_le _, rfl, rfl, by show k0 = _; simp [pasEnd], hR, HL0.out, KeptOff.refl _ _⟩
    case round =>
      clear hR
      obtain ⟨j, m, zz, hjl, rfl, rfl, HM, hR, HLK, hko⟩ := hrel
      by_cases hlt : j < zs.length
      · have hjz : j < zz.length := by rw [HLK.out.1]; exact hlt
        have hjn : j < ns.length := by rw [HNL.out]; exact hlt
        have hm0 : 0 ≤ m ∧ m ≤ 9000000000000 := by
          have := pasEnd_le ns k0 j HNS.out (by omega)
          rw [← HM.out] at this
          omega
        obtain ⟨hm1, hm2⟩ := hm0
        have hnj := HNS.out ns[j] (List.getElem_mem hjn)
        have HLJ := Lib.hid (HLK.out.2 j hjz hlt hjn)
        have HST := Lib.hid (fun z' ha hk => HLK.out.step hjz hjn z' ha hk)
        have HES := Lib.hid (pasEnd_step ns k0 j hjn)
        have HRR := Lib.hid hR
        have hrow0 := hR.1
        have HIN := Lib.hid (hR.2.1 zz[j] (List.getElem_mem hjz))
        have HGET := Lib.hid (show (zz.map Pas.lst)[j]'(by simpa using hjz) = zz[j].lst by simp)
        have hzm := List.getElem_mem hlt
        have HBM := Lib.hid (show ∃ z ∈ zs, z.sv.ownBlock = zz[j].sv.ownBlock from ⟨zs[j], hzm, by rw [HLJ.out.1]⟩)
        have HUP := Lib.hid (fun z' ha w1 w2 h1 h2 h3 h4 => hR.upd (w1 := w1) (w2 := w2) hjz z' ha h1 h2 h3 h4)
        have hjy : j < (zz.map Pas.lst).length := by simpa using hjz
        obtain ⟨z, hz⟩ : ∃ z, z = zz[j] := ⟨_, rfl⟩
        rw [← hz] at HLJ HST HIN HBM HUP HGET
        have HKO := Lib.hid hko
        clear hR hko hz hzm
        go_wp2_with (first
          | ((with_reducible refine at_store_ (w := wr) 3 ?_); refine put1_ (e := 49) (sz := 2) rfl _ _ _ rfl infoInt base g zs.length cap j 0 _ _ _ hrow0 ?_ (by omega) rfl (by omega) rfl ?_; (simpa using hjy); intro w1 hrow1 hg1
             have hg := hg1
             rw [HGET.out] at hrow1
             have hrowz : Row base 49 2 w1 (.slice (some ⟨g, 0, none⟩) zs.length cap) ((zz.map Pas.lst).set j (Pas.lst ⟨⟨m, intMarks (m + 1) z.k.splits.length⟩, z.a, z.n, z.c⟩)) := by
               refine Row.set_eq (j := j) (l := _) ?_ rfl
               simpa [Pas.lst, HGET.out] using hrow1
             have hcl : w1.cell? ⟨g, j * 2 + 1, none⟩ = some z.sv := by
               have h1 := hrowz.cell (k := j) (j := 1) (by simpa using hjy) (by omega)
               simpa [Pas.lst] using h1
             have HG := Lib.hid hg
             have HROW := Lib.hid hrowz)
          | (go_at_call 32
             have hin := Row.kept HIN.out.1 HG.out HIN.out.2
             refine (markIntS_any base _ _ (m + 1) _ hin (by have := HLJ.out.2.1; simp; omega) (by omega) (by omega)).mono ?_
             rintro e w9 ⟨rfl, hin9, hg9⟩))
        simp only [List.length_map] at hin9 ⊢
        have HR9 := Lib.hid (HUP.out ⟨⟨m, intMarks (m + 1) z.k.splits.length⟩, z.a, z.n, z.c⟩ rfl w1 w9 HROW.out HG.out hin9 hg9)
        have HL9 := Lib.hid (HST.out ⟨⟨m, intMarks (m + 1) z.k.splits.length⟩, z.a, z.n, z.c⟩ rfl (by rw [HM.out.symm, ← HLJ.out.2.1]; rfl))
        have HK9 := Lib.hid ((HKO.out.trans (KeptOff.of_grown HG.out (fun k hk => .inl hk))).trans (KeptOff.of_grown hg9 (fun k hk => .inr (by obtain ⟨z', h1, h2⟩ := HBM.out; exact ⟨z', h1, h2.trans hk⟩))))
        have hE := HES.out
        rw [← HM.out, ← HLJ.out.2.1] at hE
        have hpl : z.k.splits.length ≤ 1048576 := by rw [HLJ.out.2.1]; exact hnj
        have HE := Lib.hid hE
        clear hin9 hg9 hE
        go_roundw
        case rel => exact ⟨j + 1, m + 1 + (1 * z.k.splits.length : Nat), _, by omega, by go_num, by go_num, HE.out.symm, HR9.out, HL9.out, HK9.out⟩
        case measure => simp [intOf]; omega
      · go_wp2
        go_ret
        obtain rfl : j = zs.length := by omega
        have e1 : ns.take zs.length = ns := by rw [← HNL.out]; exact List.take_length
        rw [e1] at HM
        exact ⟨ret_int HM.out, ⟨zz, hR, HLK.out.all HNL.out⟩, hko⟩
  · have hz : zs = [] := List.eq_nil_of_length_eq_zero (by omega)
    subst hz
    obtain rfl : ns = [] := List.eq_nil_of_length_eq_zero (by simpa using hnl)
    obtain ⟨A, c, rfl⟩ : ∃ A c, v = .slice A 0 c := by
      obtain ⟨A, c, h1, _⟩ := h.1.parts
      exact ⟨A, c, by rw [h1]; rfl⟩
    go_enter Try.func23, Try.ntmps23
    go_wp2
    go_loop [1, 5] (fun kk i => kk = .int .i64 k0 ∧ i = .int .i64 0) (fun _ _ => 0)
    case atStart => exact ⟨rfl, rfl⟩
    case round =>
      obtain ⟨rfl, rfl⟩ := hrel
      go_wp2
      go_ret
      exact ⟨rfl, ⟨[], h, rfl⟩, KeptOff.refl _ _⟩


theorem lensPas_ {xs zs : List Pas} (hk : zs.map Pas.k = xs.map Pas.k) (h : xs.length ≤ 1048576 ∧ ∀ p ∈ xs, p.k.splits.length ≤ 1048576) : zs.length ≤ 1048576 ∧ ∀ z ∈ zs, z.k.splits.length ≤ 1048576 := by
  have hl : zs.length = xs.length := by simpa using congrArg List.length hk
  refine ⟨by omega, fun z hz => ?_⟩
  have : z.k ∈ xs.map Pas.k := hk ▸ List.mem_map.2 ⟨z, hz, rfl⟩
  obtain ⟨p, hp, he⟩ := List.mem_map.1 this
  have h2 := h.2 p hp
  have h3 := congrArg (fun q : PK => q.splits.length) he
  omega
theorem lenPas_small {zs : List Pas} {ks : List PK} (hk : zs.map Pas.k = ks) (h : ks.length ≤ 1048576 ∧ ∀ k ∈ ks, k.splits.length ≤ 1048576) : zs.length ≤ 1048576 ∧ ∀ z ∈ zs, z.k.splits.length ≤ 1048576 := by
  subst hk
  exact ⟨by simpa using h.1, fun z hz => by have := h.2 z.k (List.mem_map.2 ⟨z, hz, rfl⟩); simpa [Pas.k] using this⟩
theorem pasEnd_bd (zs : List Pas) (k0 : Int) (h0 : 0 ≤ k0) (h1 : k0 ≤ 4398046511104) (hl : zs.length ≤ 1048576 ∧ ∀ z ∈ zs, z.k.splits.length ≤ 1048576) : 0 ≤ pasEnd k0 (pasLens zs) ∧ pasEnd k0 (pasLens zs) ≤ 9000000000000 := by
  have := pasEnd_le (pasLens zs) k0 (pasLens zs).length (fun n hn => by
    obtain ⟨z, hz, rfl⟩ := List.mem_map.1 hn
    exact hl.2 z hz) (Nat.le_refl _)
  rw [List.take_length] at this
  have h2 : (pasLens zs).length = zs.length := by simp [pasLens]
  have h3 := hl.1
  omega
/-- Only the frame of the marks. -/
theorem markPassingS_fr (base : Nat) (v : Value) (zs : List Pas) (k0 : Int) (w : World) (h : PasR base w v zs) (h0 : 0 ≤ k0) (h1 : k0 ≤ 1048577) (hl : zs.length ≤ 1048576 ∧ ∀ z ∈ zs, z.k.splits.length ≤ 1048576) :
    Calls Try.prog 23 #[v, .int .i64 k0] w fun e w' => ∃ m : Int, e = .returned (.int .i64 m) ∧ 0 ≤ m ∧ m ≤ 4611686018427387904 ∧ KeptOff (PasBlk v zs) w w' :=
  (markPassingS_any base v zs k0 w h h0 (by omega) hl).mono fun _ _ ⟨h1, _, h3⟩ => by
    have := pasEnd_bd zs k0 h0 (by omega) hl
    exact ⟨_, h1, by omega, by omega, h3⟩


set_option maxRecDepth 100000 in
set_option maxHeartbeats 4000000 in
theorem heldPassingS_any (v : Value) (zz : List Pas) (ns : List Nat) (k0 : Int) (w : World) (h : PasS w v zz) (hk : zz.map Pas.k = pasMarks k0 ns) (h0 : 0 ≤ k0) (h1 : k0 ≤ 4398046511104) (hl : ns.length ≤ 1048576) (hl2 : ∀ n ∈ ns, n ≤ 1048576) :
    Calls Try.prog 24 #[v, .int .i64 k0] w fun e w' => e = .returned (.int .i64 (pasEnd k0 ns)) ∧ w = w' := by
  have hlz : zz.length = ns.length := by have := congrArg List.length hk; simpa [pasMarks_len] using this
  have HNS := Lib.hid hl2
  have HI := Lib.hid h.2
  have HZL := Lib.hid hlz
  have HK := Lib.hid (show ∀ j (h : j < zz.length) (hn : j < ns.length), zz[j].k = pasMark (pasEnd k0 (ns.take j)) ns[j] by
    intro j h hn
    rw [← pasMarks_get ns k0 j hn (by rw [pasMarks_len]; exact hn)]
    simp only [← hk, List.getElem_map])
  obtain ⟨A, c, rfl, hc, hm, hat0⟩ := h.1.open_
  clear h hk hl2
  rw [hlz] at hc ⊢
  clear hlz
  go_enter Try.func24, Try.ntmps24
  go_wp2
  go_loop [1, 5] (fun kk i => ∃ (j : Nat) (m : Int), j ≤ ns.length ∧ i = .int .i64 j ∧ kk = .int .i64 m ∧ Hid (m = pasEnd k0 (ns.take j)))
    (fun _ i => ns.length - (intOf i).toNat)
  case atStart => exact ⟨0, k0, Nat.zero_le _, rfl, rfl, by show k0 = _; simp [pasEnd]⟩
  case round =>
    obtain ⟨j, m, hjl, rfl, rfl, HM⟩ := hrel
    by_cases hlt : j < ns.length
    · have hjz : j < zz.length := by rw [HZL.out]; exact hlt
      obtain ⟨b, off, rfl, hat⟩ := flat_at hat0 (by omega)
      have hcs := Pas.cells (hat j hjz)
      have hIN := HI.out zz[j] (List.getElem_mem hjz)
      have hkj := HK.out j hjz hlt
      have hm0 : 0 ≤ m ∧ m ≤ 9000000000000 := by
        have := pasEnd_le ns k0 j HNS.out (by omega)
        rw [← HM.out] at this
        omega
      obtain ⟨hm1, hm2⟩ := hm0
      have hnj := HNS.out ns[j] (List.getElem_mem hlt)
      have hES := pasEnd_step ns k0 j hlt
      rw [← HM.out] at hkj hES
      have HES := Lib.hid hES
      obtain ⟨z, hz⟩ : ∃ z, z = zz[j] := ⟨_, rfl⟩
      obtain ⟨n, hn⟩ : ∃ n, n = ns[j] := ⟨_, rfl⟩
      rw [← hz] at hcs hIN hkj
      rw [← hn] at hkj hnj HES
      clear hat hat0 hz hn hES
      obtain ⟨⟨x0, sp⟩, A', n', c'⟩ := z
      simp only [Pas.k, pasMark, PK.mk.injEq, PK.mk.injEq] at hkj
      obtain ⟨e0, rfl⟩ := hkj
      obtain rfl := e0.symm
      have hs : Sl (Flat ints) 1 w (.slice A' n' c') (intMarks (m + 1) n) := hIN
      simp only at hcs
      have HSL := Lib.hid hs
      clear hIN hs
      go_wp2_with (go_at_call 33; refine (heldIntS_any _ n (m + 1) _ HSL.out (by omega) (by omega) (by omega)).mono ?_; rintro e w2 ⟨rfl, rfl⟩)
      go_round
      case rel => exact ⟨j + 1, m + 1 + (1 * n : Nat), by omega, by go_num, by go_num, HES.out.symm⟩
      case measure => simp [intOf]; omega
    · go_wp2
      go_ret
      obtain rfl : j = ns.length := by omega
      rw [List.take_length] at HM
      exact ⟨ret_int HM.out, rfl⟩


theorem PasR.keptOff {base : Nat} {w w' : World} {v : Value} {zs : List Pas} {S : Nat → Prop} (h : PasR base w v zs) (hg : KeptOff S w w') (hne : ∀ k, PasBlk v zs k → ¬ S k) : PasR base w' v zs :=
  ⟨Row.keptOff h.1 hg (fun k hk => hne k (.inl hk)), fun z hz => ⟨Row.keptOff (h.2.1 z hz).1 hg (fun k hk => hne k (.inr ⟨z, hz, hk⟩)), (h.2.1 z hz).2⟩, h.2.2⟩
end Go.Proofs.Ytbeonigmcbipeaa
