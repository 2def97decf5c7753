/- The law's marks on runs. No condition. -/
import Derived.Test.YtojpklpfnmjikaaRn
namespace Go.Proofs.Ytojpklpfnmjikaa
open Go Go.RowKit
theorem infoBool : (Try.prog.info? 4).map (·.size) = some 1 := by kernel_rfl
/-- A guard: the operation is a store of this type, in this world. -/
theorem at_store_ (t : TypeId) {P : Program} {ops : Array Oper} {Q : Exit → Act → World → Prop} {d : Option Tmp} {x y : Operand} {ty : TypeId} {pos : String} {af : Array Edge} {g : Option (Nat × Bool)} {rest : List Oper} {a : Act} {w : World}
    (h : wpList P ops Q (⟨d, .store t x y, ty, pos, af, g⟩ :: rest) a w) : wpList P ops Q (⟨d, .store t x y, ty, pos, af, g⟩ :: rest) a w := h
section
variable {P : Program} {e : TypeId} {sz : Nat}
/-- xs[k].f = a truth, xs a row of the call's own. -/
theorem putB_ {w : World} {ops : Array Oper} {rest : List Oper} {o : Oper} {a : Act} {Q : Exit → Act → World → Prop} (hgd : o.guard = none) (ti : TypeId) (x y : Operand) (ho : o.op = .store ti x y)
    (hti : (P.info? ti).map (·.size) = some 1) (base g n cap k j off : Nat) (ys : List (List Value)) (u : Bool) (hown : Row base e sz w (.slice (some ⟨g, 0, none⟩) n cap) ys) (hk : k < ys.length) (hj : j < sz) (hx : a.eval x = .pointer (some ⟨g, off, none⟩)) (hoff : off = k * sz + j) (hy : a.eval y = .bool u)
    (h : ∀ w', Row base e sz w' (.slice (some ⟨g, 0, none⟩) n cap) (ys.set k (ys[k].set j (.bool u))) → w.grownBy w' (some g) → wpList P ops Q rest (a.put o.dst undef) w') : wpList P ops Q (o :: rest) a w := by
  subst hoff
  obtain ⟨r1, r2⟩ := hown.stored hk hj (.bool u)
  refine wpList_plain hgd fun K hK => ?_
  have hlen : ys[k].length = sz := hown.1 _ (List.getElem_mem hk)
  have hc := hown.cell hk hj
  rw [List.getElem?_eq_getElem (by omega)] at hc
  have hfz := hown.frozen (k * sz + j)
  have hrun : (Instr.storeAt ti (.pointer (some ⟨g, k * sz + j, none⟩)) (.bool u)).run P w = .ok () (w.setCell ⟨g, k * sz + j, none⟩ (.bool u)) := by
    cases hq : P.info? ti with
    | none => simp [hq] at hti
    | some i =>
      have hs : i.size = 1 := by simpa [hq] using hti
      simp [Instr.storeAt, Instr.sureAddr, storeVar, sizeOf, typeInfo, hq, Value.cells, hs, storeCells, go_sem, hc, hfz, Addr.add]
  unfold Oper.wp execOp
  simp only [ho, hx, hy, hrun, Sem.run_bind, Sem.run_pure, Result.andThen_ok]
  exact hK _ _ (h _ r1 r2)
end

/-- The blocks of a copy. -/
def RunBlk (v : Value) (zs : List Run) (k : Nat) : Prop := v.ownBlock = some k ∨ ∃ z ∈ zs, z.card.sv.ownBlock = some k
theorem RunR.lt {base : Nat} {w : World} {v : Value} {zs : List Run} (h : RunR base w v zs) : ∀ k, RunBlk v zs k → base ≤ k ∧ k < w.heap.size := by
  rintro k (hk | ⟨z, hz, hk⟩)
  · exact Go.Proofs.Ytojpklpfnmjikaa.Row.lt h.1 k hk
  · exact Go.Proofs.Ytojpklpfnmjikaa.Row.lt (h.2.1 z hz).1 k hk
/-- One marked. -/
def runMark (k : Int) (n : Nat) : RunK := ⟨k, (k + 1) % 3 == 0, (k + 1 + 1) % 3 == 0, ⟨k + 1 + 1 + 1, k + 1 + 1 + 1 + 1, k + 1 + 1 + 1 + 1 + 1, punchMarks (k + 1 + 1 + 1 + 1 + 1 + 1) n⟩⟩
def runMarks : Int → List Nat → List RunK
  | _, [] => []
  | k, n :: ns => runMark k n :: runMarks (k + 6 + (2 * n : Nat)) ns
def runEnd : Int → List Nat → Int
  | k, [] => k
  | k, n :: ns => runEnd (k + 6 + (2 * n : Nat)) ns
theorem runMarks_len : ∀ (ns : List Nat) (k : Int), (runMarks k ns).length = ns.length
  | [], _ => rfl
  | n :: ns, k => by simp [runMarks, runMarks_len ns]
theorem runEnd_step : ∀ (ns : List Nat) (k : Int) (j : Nat) (h : j < ns.length), runEnd k (ns.take (j + 1)) = runEnd k (ns.take j) + 6 + (2 * ns[j] : Nat)
  | [], _, j, h => absurd h (by simp)
  | n :: ns, k, 0, _ => by simp [runEnd]
  | n :: ns, k, j + 1, h => by
    simp only [List.take_succ_cons, runEnd, List.getElem_cons_succ]
    exact runEnd_step ns _ j (by simpa using h)
theorem runMarks_get : ∀ (ns : List Nat) (k : Int) (j : Nat) (h : j < ns.length) (h' : j < (runMarks k ns).length), (runMarks k ns)[j] = runMark (runEnd k (ns.take j)) ns[j]
  | [], _, j, h, _ => absurd h (by simp)
  | n :: ns, k, 0, _, _ => by simp [runMarks, runEnd]
  | n :: ns, k, j + 1, h, h' => by
    simp only [runMarks, List.getElem_cons_succ, List.take_succ_cons, runEnd]
    exact runMarks_get ns _ j (by simpa using h) _
theorem runEnd_le : ∀ (ns : List Nat) (k : Int) (j : Nat), (∀ n ∈ ns, n ≤ 1048576) → j ≤ ns.length → k ≤ runEnd k (ns.take j) ∧ runEnd k (ns.take j) ≤ k + 2097170 * j
  | ns, k, 0, _, _ => by simp [runEnd]
  | ns, k, j + 1, hn, hj => by
    obtain ⟨h1, h2⟩ := runEnd_le ns k j hn (by omega)
    have h3 := hn ns[j] (List.getElem_mem (by omega))
    rw [runEnd_step ns k j (by omega)]
    omega
def runLens (zs : List Run) : List Nat := zs.map fun z => z.card.k.punches.length
theorem runMarks_lens : ∀ (ns : List Nat) (k : Int), (runMarks k ns).map (fun z => z.card.punches.length) = ns
  | [], _ => rfl
  | n :: ns, k => by simp [runMarks, runMarks_lens ns, runMark, punchMarks_len]
/-- One element turned in place. -/
theorem RunR.upd {base : Nat} {w w1 w2 : World} {v : Value} {zz : List Run} (h : RunR base w v zz) {j : Nat} (hj : j < zz.length) (z' : Run) (ha : z'.card.sv = zz[j].card.sv)
    (hrow : Row base 53 7 w1 v ((zz.map Run.lst).set j z'.lst)) (hg1 : w.grownBy w1 v.ownBlock) (hin : Row base 77 2 w2 z'.card.sv (z'.card.k.punches.map Punch.lst)) (hg2 : w1.grownBy w2 z'.card.sv.ownBlock) : RunR base w2 v (zz.set j z') := by
  have hz := h.2.1 zz[j] (List.getElem_mem hj)
  have hap : ∀ i (hi : i < zz.length), i ≠ j → zz[i].card.sv.ownBlock = none ∨ zz[i].card.sv.ownBlock ≠ z'.card.sv.ownBlock := by
    intro i hi hne
    rw [ha]
    rcases Nat.lt_or_ge i j with hij | hij
    · exact List.pairwise_iff_getElem.1 h.2.2 i j hi hj hij
    · rcases List.pairwise_iff_getElem.1 h.2.2 j i hj hi (by omega) with h' | h'
      · rw [h']
        by_cases hn : zz[i].card.sv.ownBlock = none
        · exact .inl hn
        · exact .inr hn
      · exact .inr (fun e => h' e.symm)
  refine ⟨?_, ?_, ?_⟩
  · rw [List.map_set]
    refine Row.kept hrow hg2 ?_
    rcases hz.2 with h' | h'
    · rw [ha, h']
      by_cases hn : v.ownBlock = none
      · exact .inl hn
      · exact .inr hn
    · rw [ha]; exact .inr (fun e => h' e.symm)
  · intro z hzm
    obtain ⟨i, hi, rfl⟩ := List.getElem_of_mem hzm
    have hi' : i < zz.length := by simpa using hi
    by_cases e : j = i
    · subst e
      rw [List.getElem_set_self]
      exact ⟨hin, by rw [ha]; exact hz.2⟩
    · rw [List.getElem_set_ne e]
      have h1 := h.2.1 zz[i] (List.getElem_mem hi')
      exact ⟨Row.kept (Row.kept h1.1 hg1 h1.2) hg2 (hap i hi' (fun h => e h.symm)), h1.2⟩
  · rw [List.pairwise_iff_getElem]
    have hsv : ∀ i (hi : i < (zz.set j z').length), ((zz.set j z')[i]).card.sv = (zz[i]'(by simpa using hi)).card.sv := by
      intro i hi
      by_cases e : j = i
      · subst e; rw [List.getElem_set_self]; exact ha
      · rw [List.getElem_set_ne e]
    intro i k hi hk hik
    have := List.pairwise_iff_getElem.1 h.2.2 i k (by simpa using hi) (by simpa using hk) hik
    unfold Run.Ap at this ⊢
    rw [hsv i hi, hsv k hk]
    exact this
/-- One element more. -/
theorem RunR.push {base : Nat} {w w2 w3 : World} {v v' : Value} {zs : List Run} {z : Run} (h : RunR base w v zs) (hbase : base ≤ w.heap.size) (hb : Below w.heap.size w w2) (hz : Row w.heap.size 77 2 w2 z.card.sv (z.card.k.punches.map Punch.lst))
    (hrow : Row base 53 7 w3 v' (zs.map Run.lst ++ [z.lst])) (hg : w2.grownBy w3 v.ownBlock) (hat : v'.ownBlock = v.ownBlock ∨ v'.ownBlock = some w2.heap.size) : RunR base w3 v' (zs ++ [z]) := by
  have hvlt : ∀ q, v.ownBlock = some q → q < w.heap.size := fun q hq => (Go.Proofs.Ytojpklpfnmjikaa.Row.lt h.1 q hq).2
  have hne : ∀ q, z.card.sv.ownBlock = some q → w.heap.size ≤ q ∧ q < w2.heap.size := fun q hq => Go.Proofs.Ytojpklpfnmjikaa.Row.lt hz q hq
  refine ⟨by rw [List.map_append]; exact hrow, ?_, ?_⟩
  · intro y hy
    rcases List.mem_append.1 hy with hy | hy
    · obtain ⟨h1, h2⟩ := h.2.1 y hy
      refine ⟨Row.kept (h1.below hb) hg h2, ?_⟩
      rcases hat with e | e
      · rw [e]; exact h2
      · rw [e]
        refine .inr (fun e2 => ?_)
        have h3 := (Go.Proofs.Ytojpklpfnmjikaa.Row.lt h1 _ e2).2
        have h4 := hb.size
        omega
    · rw [List.mem_singleton.1 hy]
      have hzn : ∀ u : Option Nat, (∀ q, u = some q → q < w.heap.size ∨ q = w2.heap.size) → z.card.sv.ownBlock = none ∨ z.card.sv.ownBlock ≠ u := fun u hu => by
        cases hz0 : z.card.sv.ownBlock with
        | none => exact .inl rfl
        | some q =>
          refine .inr (fun e => ?_)
          have h3 := hne q hz0
          rcases hu q e.symm with h4 | h4 <;> omega
      refine ⟨Row.mono (Row.kept hz hg (hzn _ fun q hq => .inl (hvlt q hq))) hbase, hzn _ fun q hq => ?_⟩
      rcases hat with e | e
      · rw [e] at hq; exact .inl (hvlt q hq)
      · rw [e] at hq; exact .inr (by simpa using hq.symm)
  · refine List.pairwise_append.2 ⟨h.2.2, by simp, fun y hy q hq => ?_⟩
    rw [List.mem_singleton.1 hq]
    unfold Run.Ap
    cases hy0 : y.card.sv.ownBlock with
    | none => exact .inl rfl
    | some g =>
      refine .inr (fun e => ?_)
      have h1 := (Go.Proofs.Ytojpklpfnmjikaa.Row.lt (h.2.1 y hy).1 g hy0).2
      have h2 := (hne g e.symm).1
      omega
theorem RunR.lit {base g : Nat} {w : World} (hg : w.heap.size = g) (hb : base ≤ g) : RunR base (w.alloc (.cells #[] 53)) (.slice (some ⟨g, 0, none⟩) 0 0) [] := by
  subst hg
  exact ⟨Row.lit_nil w _ _ hb, fun z hz => absurd hz (by simp), List.Pairwise.nil⟩
/-- In the midst of marking: j done. -/
def RunLike (k0 : Int) (ns : List Nat) (zz zs : List Run) (j : Nat) : Prop := zz.length = zs.length ∧ ∀ i (h : i < zz.length) (h' : i < zs.length) (hn : i < ns.length),
  zz[i].card.sv = zs[i].card.sv ∧ zz[i].card.k.punches.length = ns[i] ∧ (i < j → zz[i].k = runMark (runEnd k0 (ns.take i)) ns[i])
theorem RunLike.step {k0 : Int} {ns : List Nat} {zz zs : List Run} {j : Nat} (h : RunLike k0 ns zz zs j) (hj : j < zz.length) (hjn : j < ns.length) (z' : Run) (ha : z'.card.sv = zz[j].card.sv) (hk : z'.k = runMark (runEnd k0 (ns.take j)) ns[j]) : RunLike k0 ns (zz.set j z') zs (j + 1) := by
  refine ⟨by simpa using h.1, fun i hi h' hn => ?_⟩
  have hi' : i < zz.length := by simpa using hi
  by_cases e : j = i
  · subst e
    rw [List.getElem_set_self]
    refine ⟨by rw [ha]; exact (h.2 j hi' h' hn).1, ?_, fun _ => hk⟩
    have := congrArg (fun q : RunK => q.card.punches.length) hk
    simpa [runMark, punchMarks_len, Run.k] using this
  · rw [List.getElem_set_ne e]
    obtain ⟨h1, h2, h3⟩ := h.2 i hi' h' hn
    exact ⟨h1, h2, fun hij => h3 (by omega)⟩
theorem RunLike.all {k0 : Int} {ns : List Nat} {zz zs : List Run} (h : RunLike k0 ns zz zs zs.length) (hn : ns.length = zs.length) : zz.map Run.k = runMarks k0 ns := by
  apply List.ext_getElem (by rw [List.length_map, h.1, runMarks_len, hn])
  intro i h1 h2
  rw [List.getElem_map, runMarks_get ns k0 i (by rw [runMarks_len] at h2; exact h2)]
  have hi : i < zz.length := by simpa using h1
  exact (h.2 i hi (by rw [← h.1]; exact hi) (by rw [hn, ← h.1]; exact hi)).2.2 (by rw [← h.1]; exact hi)


set_option maxRecDepth 100000 in
set_option maxHeartbeats 4000000 in
theorem markRunS_any (base : Nat) (v : Value) (zs : List Run) (k0 : Int) (w : World) (h : RunR base w v zs) (h0 : 0 ≤ k0) (h1 : k0 ≤ 4398046511104) (hl : zs.length ≤ 1048576 ∧ ∀ z ∈ zs, z.card.k.punches.length ≤ 1048576) :
    Calls Try.prog 21 #[v, .int .i64 k0] w fun e w' => e = .returned (.int .i64 (runEnd k0 (runLens zs))) ∧ (∃ zz, RunR base w' v zz ∧ zz.map Run.k = runMarks k0 (runLens zs)) ∧ KeptOff (RunBlk v zs) w w' := by
  obtain ⟨hl1, hl2⟩ := hl
  obtain ⟨ns, hns⟩ : ∃ ns, ns = runLens zs := ⟨_, rfl⟩
  have hnl : ns.length = zs.length := by rw [hns]; simp [runLens]
  have HNS := Lib.hid (show ∀ n ∈ ns, n ≤ 1048576 by
    intro n hn
    rw [hns] at hn
    obtain ⟨z, hz, rfl⟩ := List.mem_map.1 hn
    exact hl2 z hz)
  have HL0 := Lib.hid (show RunLike k0 ns zs zs 0 from ⟨rfl, fun i h h' hn => ⟨rfl, by simp only [hns, runLens, List.getElem_map], fun h => absurd h (by omega)⟩⟩)
  rw [← hns]
  have HNL := Lib.hid hnl
  clear hns hl2
  by_cases hn : 0 < zs.length
  · obtain ⟨g, cap, rfl, hb, hgl, hcap⟩ := Go.Proofs.Ytojpklpfnmjikaa.Row.form h.1 (by simpa using hn)
    have hcm : cap ≤ 9223372036854775807 := by
      obtain ⟨_, _, h1, _, h3⟩ := h.1.parts
      simp only [Value.slice.injEq] at h1
      omega
    have hR := h
    clear h
    simp only [List.length_map] at hcap hR ⊢
    go_enter Try.func21, Try.ntmps21
    go_wp2
    go_loopw [1, 5] (fun kk i wr => ∃ (j : Nat) (m : Int) (zz : List Run), j ≤ zs.length ∧ i = .int .i64 j ∧ kk = .int .i64 m ∧ Hid (m = runEnd k0 (ns.take j)) ∧ RunR base wr (.slice (some ⟨g, 0, none⟩) zs.length cap) zz ∧ Hid (RunLike k0 ns zz zs j) ∧ KeptOff (RunBlk (.slice (some ⟨g, 0, none⟩) zs.length cap) zs) w wr)
      (fun _ i _ => zs.length - (intOf i).toNat)
    case atStart => exact ⟨0, k0, zs, Nat.zero_le _, rfl, rfl, by show k0 = _; simp [runEnd], hR, HL0.out, KeptOff.refl _ _⟩
    case round =>
      clear hR
      obtain ⟨j, m, zz, hjl, rfl, rfl, HM, hR, HLK, hko⟩ := hrel
      by_cases hlt : j < zs.length
      · have hjz : j < zz.length := by rw [HLK.out.1]; exact hlt
        have hjn : j < ns.length := by rw [HNL.out]; exact hlt
        have hm0 : 0 ≤ m ∧ m ≤ 9000000000000 := by
          have := runEnd_le ns k0 j HNS.out (by omega)
          rw [← HM.out] at this
          omega
        obtain ⟨hm1, hm2⟩ := hm0
        have hnj := HNS.out ns[j] (List.getElem_mem hjn)
        have HLJ := Lib.hid (HLK.out.2 j hjz hlt hjn)
        have HST := Lib.hid (fun z' ha hk => HLK.out.step hjz hjn z' ha hk)
        have HES := Lib.hid (runEnd_step ns k0 j hjn)
        have HRR := Lib.hid hR
        have hrow0 := hR.1
        have HIN := Lib.hid (hR.2.1 zz[j] (List.getElem_mem hjz))
        have HGET := Lib.hid (show (zz.map Run.lst)[j]'(by simpa using hjz) = zz[j].lst by simp)
        have hzm := List.getElem_mem hlt
        have HBM := Lib.hid (show ∃ z ∈ zs, z.card.sv.ownBlock = zz[j].card.sv.ownBlock from ⟨zs[j], hzm, by rw [HLJ.out.1]⟩)
        have HUP := Lib.hid (fun z' ha w1 w2 h1 h2 h3 h4 => hR.upd (w1 := w1) (w2 := w2) hjz z' ha h1 h2 h3 h4)
        have hjy : j < (zz.map Run.lst).length := by simpa using hjz
        obtain ⟨z, hz⟩ : ∃ z, z = zz[j] := ⟨_, rfl⟩
        rw [← hz] at HLJ HST HIN HBM HUP HGET
        have HKO := Lib.hid hko
        clear hR hko hz hzm
        go_wp2_with (first
          | ((with_reducible refine at_store_ (w := wr) 3 ?_); refine put1_ (e := 53) (sz := 7) rfl _ _ _ rfl infoInt base g zs.length cap j 0 _ _ _ hrow0 ?_ (by omega) rfl (by omega) rfl ?_; (simpa using hjy); intro w1 hrow1 hg1)
          | ((with_reducible refine at_store_ (w := w1) 4 ?_); refine putB_ (e := 53) (sz := 7) rfl _ _ _ rfl infoBool base g zs.length cap j 1 _ _ _ hrow1 ?_ (by omega) rfl (by omega) rfl ?_; (simpa using hjy); intro w2 hrow2 hg2)
          | ((with_reducible refine at_store_ (w := w2) 4 ?_); refine putB_ (e := 53) (sz := 7) rfl _ _ _ rfl infoBool base g zs.length cap j 2 _ _ _ hrow2 ?_ (by omega) rfl (by omega) rfl ?_; (simpa using hjy); intro w3 hrow3 hg3)
          | ((with_reducible refine at_store_ (w := w3) 3 ?_); refine put1_ (e := 53) (sz := 7) rfl _ _ _ rfl infoInt base g zs.length cap j 3 _ _ _ hrow3 ?_ (by omega) rfl (by omega) rfl ?_; (simpa using hjy); intro w4 hrow4 hg4)
          | ((with_reducible refine at_store_ (w := w4) 3 ?_); refine put1_ (e := 53) (sz := 7) rfl _ _ _ rfl infoInt base g zs.length cap j 4 _ _ _ hrow4 ?_ (by omega) rfl (by omega) rfl ?_; (simpa using hjy); intro w5 hrow5 hg5)
          | ((with_reducible refine at_store_ (w := w5) 3 ?_); refine put1_ (e := 53) (sz := 7) rfl _ _ _ rfl infoInt base g zs.length cap j 5 _ _ _ hrow5 ?_ (by omega) rfl (by omega) rfl ?_; (simpa using hjy); intro w6 hrow6 hg6
             have hg := (grown_trans (grown_trans (grown_trans (grown_trans (grown_trans hg1 hg2) hg3) hg4) hg5) hg6)
             rw [HGET.out] at hrow1
             have hrowz : Row base 53 7 w6 (.slice (some ⟨g, 0, none⟩) zs.length cap) ((zz.map Run.lst).set j (Run.lst ⟨m, (m + 1) % 3 == 0, (m + 1 + 1) % 3 == 0, ⟨⟨m + 1 + 1 + 1, m + 1 + 1 + 1 + 1, m + 1 + 1 + 1 + 1 + 1, punchMarks (m + 1 + 1 + 1 + 1 + 1 + 1) z.card.k.punches.length⟩, z.card.a, z.card.n, z.card.c⟩⟩)) := by
               refine Row.set_eq (j := j) (l := _) ?_ rfl
               simpa [Run.lst, HGET.out] using hrow6
             have hcl : w6.cell? ⟨g, j * 7 + 6, none⟩ = some z.card.sv := by
               have h1 := hrowz.cell (k := j) (j := 6) (by simpa using hjy) (by omega)
               simpa [Run.lst] using h1
             have HG := Lib.hid hg
             have HROW := Lib.hid hrowz)
          | (go_at_call 60
             have hin := Row.kept HIN.out.1 HG.out HIN.out.2
             refine (markPunchS_any base _ _ (m + 1 + 1 + 1 + 1 + 1 + 1) _ hin (by have := HLJ.out.2.1; simp; omega) (by omega) (by omega)).mono ?_
             rintro e w9 ⟨rfl, hin9, hg9⟩))
        simp only [List.length_map] at hin9 ⊢
        have HR9 := Lib.hid (HUP.out ⟨m, (m + 1) % 3 == 0, (m + 1 + 1) % 3 == 0, ⟨⟨m + 1 + 1 + 1, m + 1 + 1 + 1 + 1, m + 1 + 1 + 1 + 1 + 1, punchMarks (m + 1 + 1 + 1 + 1 + 1 + 1) z.card.k.punches.length⟩, z.card.a, z.card.n, z.card.c⟩⟩ rfl w6 w9 HROW.out HG.out hin9 hg9)
        have HL9 := Lib.hid (HST.out ⟨m, (m + 1) % 3 == 0, (m + 1 + 1) % 3 == 0, ⟨⟨m + 1 + 1 + 1, m + 1 + 1 + 1 + 1, m + 1 + 1 + 1 + 1 + 1, punchMarks (m + 1 + 1 + 1 + 1 + 1 + 1) z.card.k.punches.length⟩, z.card.a, z.card.n, z.card.c⟩⟩ rfl (by rw [HM.out.symm, ← HLJ.out.2.1]; rfl))
        have HK9 := Lib.hid ((HKO.out.trans (KeptOff.of_grown HG.out (fun k hk => .inl hk))).trans (KeptOff.of_grown hg9 (fun k hk => .inr (by obtain ⟨z', h1, h2⟩ := HBM.out; exact ⟨z', h1, h2.trans hk⟩))))
        have hE := HES.out
        rw [← HM.out, ← HLJ.out.2.1] at hE
        have hpl : z.card.k.punches.length ≤ 1048576 := by rw [HLJ.out.2.1]; exact hnj
        have HE := Lib.hid hE
        clear hin9 hg9 hE
        go_roundw
        case rel => exact ⟨j + 1, m + 6 + (2 * z.card.k.punches.length : Nat), _, by omega, by go_num, by go_num, HE.out.symm, HR9.out, HL9.out, HK9.out⟩
        case measure => simp [intOf]; omega
      · go_wp2
        go_ret
        obtain rfl : j = zs.length := by omega
        have e1 : ns.take zs.length = ns := by rw [← HNL.out]; exact List.take_length
        rw [e1] at HM
        exact ⟨ret_int HM.out, ⟨zz, hR, HLK.out.all HNL.out⟩, hko⟩
  · have hz : zs = [] := List.eq_nil_of_length_eq_zero (by omega)
    subst hz
    obtain rfl : ns = [] := List.eq_nil_of_length_eq_zero (by simpa using hnl)
    obtain ⟨A, c, rfl⟩ : ∃ A c, v = .slice A 0 c := by
      obtain ⟨A, c, h1, _⟩ := h.1.parts
      exact ⟨A, c, by rw [h1]; rfl⟩
    go_enter Try.func21, Try.ntmps21
    go_wp2
    go_loop [1, 5] (fun kk i => kk = .int .i64 k0 ∧ i = .int .i64 0) (fun _ _ => 0)
    case atStart => exact ⟨rfl, rfl⟩
    case round =>
      obtain ⟨rfl, rfl⟩ := hrel
      go_wp2
      go_ret
      exact ⟨rfl, ⟨[], h, rfl⟩, KeptOff.refl _ _⟩


theorem lensRun_ {xs zs : List Run} (hk : zs.map Run.k = xs.map Run.k) (h : xs.length ≤ 1048576 ∧ ∀ p ∈ xs, p.card.k.punches.length ≤ 1048576) : zs.length ≤ 1048576 ∧ ∀ z ∈ zs, z.card.k.punches.length ≤ 1048576 := by
  have hl : zs.length = xs.length := by simpa using congrArg List.length hk
  refine ⟨by omega, fun z hz => ?_⟩
  have : z.k ∈ xs.map Run.k := hk ▸ List.mem_map.2 ⟨z, hz, rfl⟩
  obtain ⟨p, hp, he⟩ := List.mem_map.1 this
  have h2 := h.2 p hp
  have h3 := congrArg (fun q : RunK => q.card.punches.length) he
  simp only [Run.k] at h3
  omega
theorem lenRun_small {zs : List Run} {ks : List RunK} (hk : zs.map Run.k = ks) (h : ks.length ≤ 1048576 ∧ ∀ k ∈ ks, k.card.punches.length ≤ 1048576) : zs.length ≤ 1048576 ∧ ∀ z ∈ zs, z.card.k.punches.length ≤ 1048576 := by
  subst hk
  exact ⟨by simpa using h.1, fun z hz => by have := h.2 z.k (List.mem_map.2 ⟨z, hz, rfl⟩); simpa [Run.k] using this⟩
theorem runEnd_bd (zs : List Run) (k0 : Int) (h0 : 0 ≤ k0) (h1 : k0 ≤ 4398046511104) (hl : zs.length ≤ 1048576 ∧ ∀ z ∈ zs, z.card.k.punches.length ≤ 1048576) : 0 ≤ runEnd k0 (runLens zs) ∧ runEnd k0 (runLens zs) ≤ 9000000000000 := by
  have := runEnd_le (runLens zs) k0 (runLens zs).length (fun n hn => by
    obtain ⟨z, hz, rfl⟩ := List.mem_map.1 hn
    exact hl.2 z hz) (Nat.le_refl _)
  rw [List.take_length] at this
  have h2 : (runLens zs).length = zs.length := by simp [runLens]
  have h3 := hl.1
  omega
/-- Only the frame of the marks. -/
theorem markRunS_fr (base : Nat) (v : Value) (zs : List Run) (k0 : Int) (w : World) (h : RunR base w v zs) (h0 : 0 ≤ k0) (h1 : k0 ≤ 1048577) (hl : zs.length ≤ 1048576 ∧ ∀ z ∈ zs, z.card.k.punches.length ≤ 1048576) :
    Calls Try.prog 21 #[v, .int .i64 k0] w fun e w' => ∃ m : Int, e = .returned (.int .i64 m) ∧ 0 ≤ m ∧ m ≤ 4611686018427387904 ∧ KeptOff (RunBlk v zs) w w' :=
  (markRunS_any base v zs k0 w h h0 (by omega) hl).mono fun _ _ ⟨h1, _, h3⟩ => by
    have := runEnd_bd zs k0 h0 (by omega) hl
    exact ⟨_, h1, by omega, by omega, h3⟩


set_option maxRecDepth 100000 in
set_option maxHeartbeats 4000000 in
theorem heldRunS_any (v : Value) (zz : List Run) (ns : List Nat) (k0 : Int) (w : World) (h : RunS w v zz) (hk : zz.map Run.k = runMarks k0 ns) (h0 : 0 ≤ k0) (h1 : k0 ≤ 4398046511104) (hl : ns.length ≤ 1048576) (hl2 : ∀ n ∈ ns, n ≤ 1048576) :
    Calls Try.prog 22 #[v, .int .i64 k0] w fun e w' => e = .returned (.int .i64 (runEnd k0 ns)) ∧ w = w' := by
  have hlz : zz.length = ns.length := by have := congrArg List.length hk; simpa [runMarks_len] using this
  have HNS := Lib.hid hl2
  have HI := Lib.hid h.2
  have HZL := Lib.hid hlz
  have HK := Lib.hid (show ∀ j (h : j < zz.length) (hn : j < ns.length), zz[j].k = runMark (runEnd k0 (ns.take j)) ns[j] by
    intro j h hn
    rw [← runMarks_get ns k0 j hn (by rw [runMarks_len]; exact hn)]
    simp only [← hk, List.getElem_map])
  obtain ⟨A, c, rfl, hc, hm, hat0⟩ := h.1.open_
  clear h hk hl2
  rw [hlz] at hc ⊢
  clear hlz
  go_enter Try.func22, Try.ntmps22
  go_wp2
  go_loop [1, 5] (fun kk i => ∃ (j : Nat) (m : Int), j ≤ ns.length ∧ i = .int .i64 j ∧ kk = .int .i64 m ∧ Hid (m = runEnd k0 (ns.take j)))
    (fun _ i => ns.length - (intOf i).toNat)
  case atStart => exact ⟨0, k0, Nat.zero_le _, rfl, rfl, by show k0 = _; simp [runEnd]⟩
  case round =>
    obtain ⟨j, m, hjl, rfl, rfl, HM⟩ := hrel
    by_cases hlt : j < ns.length
    · have hjz : j < zz.length := by rw [HZL.out]; exact hlt
      obtain ⟨b, off, rfl, hat⟩ := flat_at hat0 (by omega)
      have hcs := Run.cells (hat j hjz)
      have hIN := HI.out zz[j] (List.getElem_mem hjz)
      have hkj := HK.out j hjz hlt
      have hm0 : 0 ≤ m ∧ m ≤ 9000000000000 := by
        have := runEnd_le ns k0 j HNS.out (by omega)
        rw [← HM.out] at this
        omega
      obtain ⟨hm1, hm2⟩ := hm0
      have hnj := HNS.out ns[j] (List.getElem_mem hlt)
      have hES := runEnd_step ns k0 j hlt
      rw [← HM.out] at hkj hES
      have HES := Lib.hid hES
      obtain ⟨z, hz⟩ : ∃ z, z = zz[j] := ⟨_, rfl⟩
      obtain ⟨n, hn⟩ : ∃ n, n = ns[j] := ⟨_, rfl⟩
      rw [← hz] at hcs hIN hkj
      rw [← hn] at hkj hnj HES
      clear hat hat0 hz hn hES
      obtain ⟨x0, x1, x2, ⟨⟨r0, r1, r2, sp⟩, A', n', c'⟩⟩ := z
      simp only [Run.k, runMark, RunK.mk.injEq, CdK.mk.injEq] at hkj
      obtain ⟨e0, rfl, rfl, rfl, rfl, rfl, rfl⟩ := hkj
      obtain rfl := e0.symm
      have hs : Sl (Flat Punch.lst) 2 w (.slice A' n' c') (punchMarks (m + 1 + 1 + 1 + 1 + 1 + 1) n) := hIN
      simp only at hcs
      have HSL := Lib.hid hs
      clear hIN hs
      obtain ⟨b1, hb1⟩ : ∃ b, ((m + 1) % 3 == 0) = b := ⟨_, rfl⟩
      have hbb1 : (b1 != b1) = false := by simp
      rw [hb1] at hcs
      obtain ⟨b2, hb2⟩ : ∃ b, ((m + 1 + 1) % 3 == 0) = b := ⟨_, rfl⟩
      have hbb2 : (b2 != b2) = false := by simp
      rw [hb2] at hcs
      go_wp2_with (go_at_call 61; refine (heldPunchS_any _ n (m + 1 + 1 + 1 + 1 + 1 + 1) _ HSL.out (by omega) (by omega) (by omega)).mono ?_; rintro e w2 ⟨rfl, rfl⟩)
      go_round
      case rel => exact ⟨j + 1, m + 6 + (2 * n : Nat), by omega, by go_num, by go_num, HES.out.symm⟩
      case measure => simp [intOf]; omega
    · go_wp2
      go_ret
      obtain rfl : j = ns.length := by omega
      rw [List.take_length] at HM
      exact ⟨ret_int HM.out, rfl⟩


theorem RunR.keptOff {base : Nat} {w w' : World} {v : Value} {zs : List Run} {S : Nat → Prop} (h : RunR base w v zs) (hg : KeptOff S w w') (hne : ∀ k, RunBlk v zs k → ¬ S k) : RunR base w' v zs :=
  ⟨Row.keptOff h.1 hg (fun k hk => hne k (.inl hk)), fun z hz => ⟨Row.keptOff (h.2.1 z hz).1 hg (fun k hk => hne k (.inr ⟨z, hz, hk⟩)), (h.2.1 z hz).2⟩, h.2.2⟩
end Go.Proofs.Ytojpklpfnmjikaa
