/- The draws of passings. Condition: the cursor has not come too far. -/
import Derived.Test.YtbeonigmcbipeaaCur
import Derived.Test.YtbeonigmcbipeaaPasN
import Derived.Test.YtbeonigmcbipeaaAddQ
namespace Go.Proofs.Ytbeonigmcbipeaa
open Go Go.RowKit

/-- One passing more, behind steps of the cursor. -/
theorem PasR.pushC {base c : Nat} {w w2 w3 : World} {v v' : Value} {zs : List Pas} {z : Pas} (h : PasR base w v zs) (hc : c < base) (hbase : base ≤ w.heap.size) (hg0 : w.grownBy w2 (some c)) (hz : Go.Proofs.Ytbeonigmcbipeaa.Row w.heap.size 3 1 w2 z.sv (z.k.splits.map ints))
    (hrow : Go.Proofs.Ytbeonigmcbipeaa.Row base 49 2 w3 v' (zs.map Pas.lst ++ [z.lst])) (hg : w2.grownBy w3 v.ownBlock) (hat : v'.ownBlock = v.ownBlock ∨ v'.ownBlock = some w2.heap.size) : PasR base w3 v' (zs ++ [z]) := by
  have hvlt : ∀ q, v.ownBlock = some q → q < w.heap.size := fun q hq => (Go.Proofs.Ytbeonigmcbipeaa.Row.lt h.1 q hq).2
  have hne : ∀ q, z.sv.ownBlock = some q → w.heap.size ≤ q ∧ q < w2.heap.size := fun q hq => Go.Proofs.Ytbeonigmcbipeaa.Row.lt hz q hq
  refine ⟨by rw [List.map_append]; exact hrow, ?_, ?_⟩
  · intro y hy
    rcases List.mem_append.1 hy with hy | hy
    · obtain ⟨h1, h2⟩ := h.2.1 y hy
      refine ⟨Row.kept (Row.kept h1 hg0 (.inr fun e => by have := (Go.Proofs.Ytbeonigmcbipeaa.Row.lt h1 _ e).1; omega)) hg h2, ?_⟩
      rcases hat with e | e
      · rw [e]; exact h2
      · rw [e]
        refine .inr (fun e2 => ?_)
        have h3 := (Go.Proofs.Ytbeonigmcbipeaa.Row.lt h1 _ e2).2
        have h4 := hg0.size
        omega
    · rw [List.mem_singleton.1 hy]
      have hzn : ∀ u : Option Nat, (∀ q, u = some q → q < w.heap.size ∨ q = w2.heap.size) → z.sv.ownBlock = none ∨ z.sv.ownBlock ≠ u := fun u hu => by
        cases hz0 : z.sv.ownBlock with
        | none => exact .inl rfl
        | some q =>
          refine .inr (fun e => ?_)
          have h3 := hne q hz0
          rcases hu q e.symm with h4 | h4 <;> omega
      refine ⟨Row.mono (Row.kept hz hg (hzn _ fun q hq => .inl (hvlt q hq))) hbase, hzn _ fun q hq => ?_⟩
      rcases hat with e | e
      · rw [e] at hq; exact .inl (hvlt q hq)
      · rw [e] at hq; exact .inr (by simpa using hq.symm)
  · refine List.pairwise_append.2 ⟨h.2.2, by simp, fun y hy q hq => ?_⟩
    rw [List.mem_singleton.1 hq]
    unfold Pas.Ap
    cases hy0 : y.sv.ownBlock with
    | none => exact .inl rfl
    | some g =>
      refine .inr (fun e => ?_)
      have h1 := (Go.Proofs.Ytbeonigmcbipeaa.Row.lt (h.2.1 y hy).1 g hy0).2
      have h2 := (hne g e.symm).1
      omega
theorem PasR.keptC {base c : Nat} {w w2 : World} {v : Value} {zs : List Pas} (h : PasR base w v zs) (hc : c < base) (hg0 : w.grownBy w2 (some c)) : PasR base w2 v zs :=
  ⟨Row.kept h.1 hg0 (.inr fun e => by have := (Go.Proofs.Ytbeonigmcbipeaa.Row.lt h.1 _ e).1; omega), fun z hz => ⟨Row.kept (h.2.1 z hz).1 hg0 (.inr fun e => by have := (Go.Proofs.Ytbeonigmcbipeaa.Row.lt (h.2.1 z hz).1 _ e).1; omega), (h.2.1 z hz).2⟩, h.2.2⟩
theorem LitAt.put_ {e : TypeId} {w : World} {g : Nat} {cs : List Value} (h : LitAt w g e cs) (j : Nat) (u : Value) : LitAt (w.setCell ⟨g, j, none⟩ u) g e (cs.set j u) := by
  unfold LitAt at h ⊢
  rw [heap_setCell_same w g j cs.toArray e u h]
  simp
theorem Row.putNe_ {base : Nat} {e : TypeId} {sz : Nat} {w : World} {v : Value} {ys : List (List Value)} {g j : Nat} (h : Row base e sz w v ys) (hne : v.ownBlock ≠ some g) (u : Value) : Row base e sz (w.setCell ⟨g, j, none⟩ u) v ys :=
  ⟨h.1, ownsRow_setCell_other h.2 hne _⟩
theorem grown_new {w w1 w2 : World} {c g : Nat} (h : w.grownBy w1 (some c)) (h2 : w1.grownBy w2 (some g)) (hg : w.heap.size ≤ g) : w.grownBy w2 (some c) :=
  ⟨h2.os.trans h.os, h2.tape.trans h.tape, h2.output.trans h.output, Nat.le_trans h.size h2.size, fun i hi hne => (h2.block i (Nat.lt_of_lt_of_le hi h.size) (fun e => by have := Option.some.inj e; omega)).trans (h.block i hi hne)⟩
theorem grown_own {w w1 w2 : World} {c : Nat} {row : Option Nat} (h : w.grownBy w1 (some c)) (h2 : w1.grownBy w2 row) (hg : ∀ g, row = some g → w.heap.size ≤ g) : w.grownBy w2 (some c) :=
  ⟨h2.os.trans h.os, h2.tape.trans h.tape, h2.output.trans h.output, Nat.le_trans h.size h2.size, fun i hi hne => (h2.block i (Nat.lt_of_lt_of_le hi h.size) (fun e => by have := hg i e.symm; omega)).trans (h.block i hi hne)⟩
/-- What such a passing holds. -/
def DrawnP (p : Pas) : Prop := (-100 ≤ p.k.runner ∧ p.k.runner ≤ 1000) ∧ p.k.splits.length ≤ 4 ∧ ∀ x ∈ p.k.splits, -100000 ≤ x ∧ x ≤ 100000
theorem lit_sl (w : World) (xs : List Int) (e : TypeId) (g n : Nat) (hg : w.heap.size = g) (hn : n = xs.length) (hl : xs.length ≤ 1000 := by decide) : Sl (Flat ints) 1 (w.alloc (.cells (xs.map (Value.int .i64)).toArray e)) (.slice (some ⟨g, 0, none⟩) n n) xs := by
  subst hg
  subst hn
  have := Row.lit w e 1 (xs.map ints) (by simp [ints]) (by simp [maxLen]; omega) (Nat.le_refl _) (xs.map (Value.int .i64)).toArray (by
    congr 1
    clear hl
    induction xs with
    | nil => rfl
    | cons x xs ih => simp only [List.map_cons, List.flatten_cons, ints, List.cons_append, List.nil_append, ih])
  simp only [List.length_map] at this
  exact Sl.of_flat this

set_option maxRecDepth 100000 in
set_option maxHeartbeats 8000000 in
theorem passings_any (c n : Nat) (w : World) (h : Cur c w n) (hn : n ≤ 1000000) :
    Calls Try.prog 89 #[.pointer (some ⟨c, 0, none⟩)] w fun e w' => ∃ v zs, e = .returned v ∧ PasR w.heap.size w' v zs ∧ zs.length ≤ 8 ∧ (∀ z ∈ zs, DrawnP z) ∧ Cur c w' (n + 300) ∧ w.grownBy w' (some c) := by
  have hlt := h.lt
  have HR0 := Lib.hid (show PasR w.heap.size (w.alloc (.cells #[] 49)) (.slice (some ⟨w.heap.size, 0, none⟩) 0 0) [] from PasR.lit rfl (Nat.le_refl _))
  have HC0 := Lib.hid (h.below (below_alloc (Below.refl _ _) (.cells #[] 49)))
  have HG0 := Lib.hid (show w.grownBy (w.alloc (.cells #[] 49)) (some c) from grown_of (below_alloc (Below.refl _ _) _))
  clear h
  go_enter Try.func89, Try.ntmps89
  go_wp2
  go_loopw [3, 4] (fun v i wr => ∃ (k : Nat) (zs : List Pas), k ≤ 7 ∧ i = .int .i64 ((k + 1 : Nat) : Int) ∧ Hid (zs.length ≤ k) ∧ Hid (∀ z ∈ zs, DrawnP z) ∧ Hid (PasR w.heap.size wr v zs) ∧ Hid (Cur c wr (n + 30 * k)) ∧ Hid (w.grownBy wr (some c)))
    (fun _ i _ => 8 - (intOf i).toNat)
  case atStart => exact ⟨0, [], by omega, rfl, Nat.le_refl _, fun z hz => absurd hz (by simp), HR0.out, HC0.out, HG0.out⟩
  case round =>
    clear HR0 HC0 HG0
    obtain ⟨k, zs, hk7, rfl, HZL, HZD, HR, HC, HG⟩ := hrel
    by_cases hk : k < 7
    · have hk1 : ((k + 1 : Nat) : Int) < 8 := by omega
      go_wp2_with fail
      refine (one_any c (n + 30 * k) 3 wr HC.out (by omega) (by omega)).mono ?_
      rintro e w1 ⟨b, rfl, hc1, hg1⟩
      have HC1 := Lib.hid hc1
      have HG1 := Lib.hid hg1
      clear hc1 hg1
      cases b with
      | true =>
        go_wp2
        go_roundw
        case rel => exact ⟨k + 1, zs, by omega, by go_num, Nat.le_succ_of_le HZL.out, HZD.out, HR.out.keptC hlt HG1.out, HC1.out.mono (by omega), grown_trans HG.out HG1.out⟩
        case measure => simp [intOf]; omega
      | false =>
        obtain ⟨rr, hrr⟩ : ∃ rr : Int, 3 * ((k : Int) + 1) = rr := ⟨_, rfl⟩
        have HRRB := Lib.hid (show 0 ≤ rr ∧ rr ≤ 100 by omega)
        have hb2 : Below w1.heap.size w1 ((w1.alloc (.cells #[] 3)).alloc (.cells #[.int .i64 rr, .slice (some ⟨w1.heap.size, 0, none⟩) 0 0] 49)) := below_alloc (below_alloc (Below.refl _ _) _) _
        have HCW := Lib.hid (HC1.out.below hb2)
        have HGW := Lib.hid (grown_of (row := some c) hb2)
        have HL2 := Lib.hid (show LitAt ((w1.alloc (.cells #[] 3)).alloc (.cells #[.int .i64 rr, .slice (some ⟨w1.heap.size, 0, none⟩) 0 0] 49)) (w1.heap.size + 1) 49 [.int .i64 rr, .slice (some ⟨w1.heap.size, 0, none⟩) 0 0] from LitAt.new _ _ _ _ (by simp))
        have HRW := Lib.hid ((Row.lit_nil w1 3 1 (Nat.le_refl _)).alloc (.cells #[.int .i64 rr, .slice (some ⟨w1.heap.size, 0, none⟩) 0 0] 49))
        have hs1 : w.heap.size ≤ w1.heap.size := Nat.le_trans HG.out.size HG1.out.size
        have HP1 := Lib.hid (HR.out.keptC hlt HG1.out)
        obtain ⟨gp, hgp⟩ : ∃ gp, w1.heap.size + 1 = gp := ⟨_, rfl⟩
        have HGP := Lib.hid hgp
        rw [hgp] at HL2
        clear hb2
        go_wp2_with fail
        refine (pick_any c (n + 30 * k + 2) 5 _ HCW.out (by omega) (by omega)).mono ?_
        rintro e w3 ⟨t, rfl, ht1, ht2, hc3, hg3⟩
        obtain ⟨kk, rfl⟩ : ∃ kk : Nat, t = kk := ⟨t.toNat, by omega⟩
        have hkk : kk ≤ 4 := by omega
        have HL3 := Lib.hid (HL2.out.grown hg3 (by intro e; simp at e; omega))
        have HR3 := Lib.hid (HRW.out.kept hg3 (.inr (by simp only [Value.ownBlock]; intro e; simp at e; omega)))
        have HG3 := Lib.hid (grown_trans HGW.out hg3)
        have HC3 := Lib.hid hc3
        have HN3 := Lib.hid (show (Value.slice (some ⟨w1.heap.size, 0, none⟩) 0 0).ownBlock ≠ some gp by simp only [Value.ownBlock]; intro e; simp at e; omega)
        clear hc3 hg3 ht1 ht2 hrr hgp
        go_wp2_with fail
        go_loopw [6, 7] (fun av jv wi => ∃ (j : Nat) (at_ : Int) (sp : List Int) (A : Option Addr) (m d : Nat), j ≤ 4 ∧ jv = .int .i64 j ∧ av = .int .i64 at_ ∧ 0 ≤ at_ ∧ at_ ≤ 2000 ∧ Hid (sp.length + j ≤ 4 ∧ at_ ≤ 500 * sp.length ∧ ∀ x ∈ sp, -100000 ≤ x ∧ x ≤ 100000) ∧ Hid (LitAt wi gp 49 [.int .i64 rr, .slice A m d]) ∧ Hid (Row w1.heap.size 3 1 wi (.slice A m d) (sp.map ints)) ∧ Hid ((Value.slice A m d).ownBlock ≠ some gp) ∧ Hid (Cur c wi (n + 30 * k + 4 + 2 * (4 - j))) ∧ Hid (w1.grownBy wi (some c)))
          (fun _ jv _ => (intOf jv).toNat)
        case atStart => exact ⟨kk, 0, [], _, _, _, hkk, rfl, rfl, by omega, by omega, ⟨by simpa using hkk, by simp, fun x hx => absurd hx (by simp)⟩, HL3.out, HR3.out, HN3.out, HC3.out.mono (by omega), HG3.out⟩
        case round =>
          clear HL3 HR3 HN3 HC3 HG3 HCW HGW HL2 HRW
          obtain ⟨j, at_, sp, A, m, d, hj4, rfl, rfl, ha0, ha1, HSP, HL, HROW, HNG, HCU, HGI⟩ := hrel
          by_cases hj : 0 < j
          · have hjj : (0 : Int) < (j : Int) := by omega
            have hsz : w1.heap.size ≤ wr.heap.size := HGI.out.size
            have hbl : Below wr.heap.size wr (wr.alloc (.cells #[.int .i64 300, .int .i64 310, .int .i64 320, .int .i64 400, .int .i64 500, .int .i64 1] 3)) := below_alloc (Below.refl _ _) _
            have HCL := Lib.hid (HCU.out.below hbl)
            have HLL := Lib.hid (HL.out.below hbl)
            have HRL := Lib.hid (HROW.out.below hbl)
            have HGL := Lib.hid (grown_trans HGI.out (grown_of (row := some c) hbl))
            have hlr := HCU.out.lt
            clear hbl
            go_wp2_with fail
            refine (among_any c _ [300, 310, 320, 400, 500, 1] _ _ HCL.out (by omega) (lit_sl wr [300, 310, 320, 400, 500, 1] 3 wr.heap.size 6 rfl rfl) (by simp) (by simp) (fun A' m' d' e => by simp only [Value.slice.injEq, Option.some.injEq] at e; rw [← e.1]; simp only; omega)).mono ?_
            rintro e w5 ⟨x, hx, rfl, hc5, hg5⟩
            have hx2 : 1 ≤ x ∧ x ≤ 500 := by simp at hx; omega
            obtain ⟨hx3, hx4⟩ := hx2
            have HL5 := Lib.hid (HLL.out.grown hg5 (by intro e; simp at e; have := HGP.out; omega))
            have HR5 := Lib.hid (HRL.out.kept hg5 (.inr (fun e => by have := (HRL.out.lt _ e).1; omega)))
            have HC5 := Lib.hid hc5
            have HG5 := Lib.hid (grown_trans HGL.out hg5)
            have hl5 := HL5.out.range 1 _ rfl
            simp only [Nat.zero_add] at hl5
            have HRA := Lib.hid (HR5.out.alloc (.cells #[.int .i64 (at_ + x)] 3))
            have HLA := Lib.hid (HL5.out.alloc (.cells #[.int .i64 (at_ + x)] 3))
            have hla := HLA.out.range 1 _ rfl
            simp only [Nat.zero_add] at hla
            have HSR := Lib.hid (show Src (w5.alloc (.cells #[.int .i64 (at_ + x)] 3)) 1 (some ⟨w5.heap.size, 0, none⟩) 1 [ints (at_ + x)] from Src.lit w5 3 (ints (at_ + x)) w5.heap.size rfl rfl (ints_one _))
            have HLEN := Lib.hid (show (sp.map ints).length + 1 ≤ 2147483648 by have := HSP.out.1; simp; omega)
            have hs5 : w1.heap.size ≤ (w5.alloc (.cells #[.int .i64 (at_ + x)] 3)).heap.size := by have := HG5.out.size; simp; omega
            clear hc5 hg5 hx hlr
            go_wp2_with (at_builtin; refine tyInt.append rfl _ _ rfl w1.heap.size _ _ rfl HRA.out _ 1 1 [ints (at_ + x)] rfl HSR.out HLEN.out hs5 ?_; intro o6 w6 hrow6 hg6 hat6; obtain ⟨A6, c6, rfl, hc6, hm6⟩ := hrow6.parts; have HL6 := Lib.hid (HLA.out.grown hg6 HNG.out); have hl6 := HL6.out.range 1 _ rfl; simp only [Nat.zero_add] at hl6; have hf6 := HL6.out.frozen 1)
            have hsz6 := hg6.size
            have HFIN := Lib.hid (show Hid (LitAt (w6.setCell ⟨gp, 1, none⟩ (.slice A6 (sp.length + 1) c6)) gp 49 [.int .i64 rr, .slice A6 (sp.length + 1) c6]) ∧ Hid (Row w1.heap.size 3 1 (w6.setCell ⟨gp, 1, none⟩ (.slice A6 (sp.length + 1) c6)) (.slice A6 (sp.length + 1) c6) ((sp ++ [at_ + x]).map ints)) ∧ Hid ((Value.slice A6 (sp.length + 1) c6).ownBlock ≠ some gp) ∧ Hid (Cur c (w6.setCell ⟨gp, 1, none⟩ (.slice A6 (sp.length + 1) c6)) (n + 30 * k + 4 + 2 * (4 - (j - 1)))) ∧ Hid (w1.grownBy (w6.setCell ⟨gp, 1, none⟩ (.slice A6 (sp.length + 1) c6)) (some c)) from by
              have hgp := HGP.out
              have hrow6' : Row w1.heap.size 3 1 w6 (.slice A6 (sp.length + 1) c6) ((sp ++ [at_ + x]).map ints) := by
                have := hrow6
                simp only [List.length_append, List.length_map, List.length_singleton] at this
                simpa using this
              have hne6 : (Value.slice A6 (sp.length + 1) c6).ownBlock ≠ some gp := by
                have h1 := hat6
                simp only [List.length_append, List.length_map, List.length_singleton] at h1
                rcases h1 with e | e
                · rw [e]; exact HNG.out
                · rw [e]; intro e2; have := HL5.out.lt; simp at e2; omega
              have hown : ∀ g, (Value.slice A m d).ownBlock = some g → w1.heap.size ≤ g := fun g hg => (HRA.out.lt g hg).1
              have hcur : Cur c w6 (n + 30 * k + 4 + 2 * (4 - j) + 2) := (HC5.out.below (below_alloc (Below.refl _ _) (.cells #[.int .i64 (at_ + x)] 3))).kept hg6 (fun g hg => by have := hown g hg; omega)
              refine ⟨HL6.out.put_ 1 _, hrow6'.putNe_ hne6 _, hne6, (hcur.kept (row := some gp) grown_setCell (fun g hg => by have := Option.some.inj hg; omega)).mono (by omega), ?_⟩
              exact grown_new (grown_own (grown_trans HG5.out (grown_of (row := some c) (below_alloc (Below.refl _ _) (.cells #[.int .i64 (at_ + x)] 3)))) hg6 hown) grown_setCell (by omega))
            have HSP2 := Lib.hid (show (sp ++ [at_ + x]).length + (j - 1) ≤ 4 ∧ at_ + x ≤ 500 * ((sp ++ [at_ + x]).length : Int) ∧ ∀ y ∈ sp ++ [at_ + x], -100000 ≤ y ∧ y ≤ 100000 from by
              obtain ⟨h1, h2, h3⟩ := HSP.out
              refine ⟨by simp; omega, by simp; omega, fun y hy => ?_⟩
              rcases List.mem_append.1 hy with hy | hy
              · exact h3 y hy
              · rw [List.mem_singleton.1 hy]; omega)
            have HB2 := Lib.hid (show 0 ≤ at_ + x ∧ at_ + x ≤ 2000 from by obtain ⟨h1, h2, h3⟩ := HSP.out; omega)
            clear hrow6 hat6 hg6 hl6 hf6
            go_roundw
            case rel => exact ⟨j - 1, at_ + x, sp ++ [at_ + x], A6, sp.length + 1, c6, by omega, by congr 1; omega, rfl, HB2.out.1, HB2.out.2, HSP2.out, HFIN.out.1, HFIN.out.2.1, HFIN.out.2.2.1, HFIN.out.2.2.2.1, HFIN.out.2.2.2.2⟩
            case measure => simp [intOf]; omega
          · obtain rfl : j = 0 := by omega
            have hl0 := HL.out.range 0 _ rfl
            have hl1 := HL.out.range 1 _ rfl
            simp only [Nat.zero_add] at hl0 hl1
            have HPI := Lib.hid (HP1.out.keptC hlt HGI.out)
            have HRA := Lib.hid (HPI.out.1.alloc (.cells #[.int .i64 rr, .slice A m d] 49))
            have HSR := Lib.hid (show Src (wr.alloc (.cells #[.int .i64 rr, .slice A m d] 49)) 2 (some ⟨wr.heap.size, 0, none⟩) 1 [Pas.lst ⟨⟨rr, sp⟩, A, m, d⟩] from Src.lit wr 49 (Pas.lst ⟨⟨rr, sp⟩, A, m, d⟩) wr.heap.size rfl rfl (Pas.one _))
            have HLEN := Lib.hid (show (zs.map Pas.lst).length + 1 ≤ 2147483648 by have := HZL.out; simp; omega)
            have hsw : w.heap.size ≤ (wr.alloc (.cells #[.int .i64 rr, .slice A m d] 49)).heap.size := by have := HGI.out.size; simp; omega
            go_wp2_with (at_builtin; refine tyPas.append rfl _ _ rfl w.heap.size _ _ rfl HRA.out _ 1 1 [Pas.lst ⟨⟨rr, sp⟩, A, m, d⟩] rfl HSR.out HLEN.out hsw ?_; intro o7 w7 hrow7 hg7 hat7)
            have hga : w1.grownBy (wr.alloc (.cells #[.int .i64 rr, .slice A m d] 49)) (some c) := grown_trans HGI.out (grown_of (row := some c) (below_alloc (Below.refl _ _) _))
            have HPU := Lib.hid (PasR.pushC (z := ⟨⟨rr, sp⟩, A, m, d⟩) HP1.out hlt hs1 hga (HROW.out.alloc _) hrow7 hg7 hat7)
            have HCE := Lib.hid ((HCU.out.below (below_alloc (Below.refl _ _) (.cells #[.int .i64 rr, .slice A m d] 49))).kept hg7 (fun g hg => by have := (HRA.out.lt g hg).1; omega))
            have HGE := Lib.hid (grown_own (grown_trans (grown_trans HG.out HG1.out) hga) hg7 (fun g hg => (HRA.out.lt g hg).1))
            have HZD2 := Lib.hid (show ∀ z ∈ zs ++ [(⟨⟨rr, sp⟩, A, m, d⟩ : Pas)], DrawnP z from fun z hz => by
              rcases List.mem_append.1 hz with hz | hz
              · exact HZD.out z hz
              · rw [List.mem_singleton.1 hz]
                have h1 := HRRB.out
                have h2 := HSP.out
                exact ⟨⟨by simp only; omega, by simp only; omega⟩, by simp only; omega, h2.2.2⟩)
            clear hrow7 hg7 hat7 hga
            go_roundw
            case rel => exact ⟨k + 1, zs ++ [(⟨⟨rr, sp⟩, A, m, d⟩ : Pas)], by omega, by go_num, by have := HZL.out; show _ ≤ _; simp; omega, HZD2.out, HPU.out, HCE.out.mono (by omega), HGE.out⟩
            case measure => simp [intOf]; omega
    · obtain rfl : k = 7 := by omega
      go_wp2_with fail
      refine (one_any c (n + 30 * 7) 24 wr HC.out (by omega) (by omega)).mono ?_
      rintro e w1 ⟨b, rfl, hc1, hg1⟩
      have HC1 := Lib.hid hc1
      have HG1 := Lib.hid (grown_trans HG.out hg1)
      have HP1 := Lib.hid (HR.out.keptC hlt hg1)
      clear hc1 hg1
      cases b with
      | false =>
        go_wp2
        go_ret
        exact ⟨_, zs, rfl, HP1.out, Nat.le_succ_of_le HZL.out, HZD.out, HC1.out.mono (by omega), HG1.out⟩
      | true =>
        have hw1 : w.heap.size ≤ w1.heap.size := HG1.out.size
        have hbl : Below w1.heap.size w1 (w1.alloc (.cells #[.int .i64 0, .int .i64 3, .int .i64 99, .int .i64 100] 3)) := below_alloc (Below.refl _ _) _
        have HCL := Lib.hid (HC1.out.below hbl)
        have hbl' := Lib.hid hbl
        clear hbl
        go_wp2_with fail
        refine (among_any c _ [0, 3, 99, 100] _ _ HCL.out (by omega) (lit_sl w1 [0, 3, 99, 100] 3 w1.heap.size 4 rfl rfl) (by simp) (by simp) (fun A' m' d' e => by simp only [Value.slice.injEq, Option.some.injEq] at e; rw [← e.1]; simp only; omega)).mono ?_
        rintro e w2 ⟨x, hx, rfl, hc2, hg2⟩
        have hx2 : 0 ≤ x ∧ x ≤ 100 := by simp at hx; omega
        have HX := Lib.hid hx2
        have hs2 := hg2.size
        simp only [World.size_alloc] at hs2
        have hb2 : Below w2.heap.size w2 (w2.alloc (.cells #[.int .i64 0, .int .i64 5, .int .i64 36001] 3)) := below_alloc (Below.refl _ _) _
        have HC2 := Lib.hid (hc2.below hb2)
        have HG2 := Lib.hid (show w1.grownBy (w2.alloc (.cells #[.int .i64 0, .int .i64 5, .int .i64 36001] 3)) (some c) from grown_trans (grown_of (row := some c) hbl'.out) (grown_trans hg2 (grown_of (row := some c) hb2)))
        clear hx hx2 hc2 hg2 hb2
        go_wp2_with fail
        refine (among_any c _ [0, 5, 36001] _ _ HC2.out (by omega) (lit_sl w2 [0, 5, 36001] 3 w2.heap.size 3 rfl rfl) (by simp) (by simp) (fun A' m' d' e => by simp only [Value.slice.injEq, Option.some.injEq] at e; rw [← e.1]; simp only; omega)).mono ?_
        rintro e w3 ⟨y, hy, rfl, hc3, hg3⟩
        have HY := Lib.hid (show 0 ≤ y ∧ y ≤ 36001 by simp at hy; omega)
        have HC3 := Lib.hid hc3
        have HG3 := Lib.hid (grown_trans HG2.out hg3)
        have hb4 : Below w3.heap.size w3 ((w3.alloc (.cells #[.int .i64 y, .int .i64 5] 3)).alloc (.cells #[.int .i64 x, .slice (some ⟨w3.heap.size, 0, none⟩) 2 2] 49)) := below_alloc (below_alloc (Below.refl _ _) _) _
        have HGA := Lib.hid (grown_trans HG3.out (grown_of (row := some c) hb4))
        have HCA := Lib.hid (HC3.out.below hb4)
        have HPI := Lib.hid (HP1.out.keptC hlt HGA.out)
        have HZR := Lib.hid (show Row w1.heap.size 3 1 ((w3.alloc (.cells #[.int .i64 y, .int .i64 5] 3)).alloc (.cells #[.int .i64 x, .slice (some ⟨w3.heap.size, 0, none⟩) 2 2] 49)) (.slice (some ⟨w3.heap.size, 0, none⟩) 2 2) (([y, 5] : List Int).map ints) from (Row.lit w3 3 1 (([y, 5] : List Int).map ints) (by simp [ints]) (by simp [maxLen]) HG3.out.size #[.int .i64 y, .int .i64 5] (by simp [ints])).alloc _)
        have HSR := Lib.hid (show Src ((w3.alloc (.cells #[.int .i64 y, .int .i64 5] 3)).alloc (.cells #[.int .i64 x, .slice (some ⟨w3.heap.size, 0, none⟩) 2 2] 49)) 2 (some ⟨w3.heap.size + 1, 0, none⟩) 1 [Pas.lst ⟨⟨x, [y, 5]⟩, some ⟨w3.heap.size, 0, none⟩, 2, 2⟩] from Src.lit (w3.alloc (.cells #[.int .i64 y, .int .i64 5] 3)) 49 (Pas.lst ⟨⟨x, [y, 5]⟩, some ⟨w3.heap.size, 0, none⟩, 2, 2⟩) (w3.heap.size + 1) (by simp) rfl (Pas.one _))
        have HLEN := Lib.hid (show (zs.map Pas.lst).length + 1 ≤ 2147483648 by have := HZL.out; simp; omega)
        have hsw : w.heap.size ≤ ((w3.alloc (.cells #[.int .i64 y, .int .i64 5] 3)).alloc (.cells #[.int .i64 x, .slice (some ⟨w3.heap.size, 0, none⟩) 2 2] 49)).heap.size := by have := HG3.out.size; simp; omega
        clear hy hc3 hg3 hb4
        go_wp2_with (at_builtin; refine tyPas.append rfl _ _ rfl w.heap.size _ _ rfl HPI.out.1 _ 1 1 [Pas.lst ⟨⟨x, [y, 5]⟩, some ⟨w3.heap.size, 0, none⟩, 2, 2⟩] rfl HSR.out HLEN.out hsw ?_; intro o7 w7 hrow7 hg7 hat7)
        have HPU := Lib.hid (PasR.pushC (z := ⟨⟨x, [y, 5]⟩, some ⟨w3.heap.size, 0, none⟩, 2, 2⟩) HP1.out hlt hw1 HGA.out HZR.out hrow7 hg7 hat7)
        have HCE := Lib.hid (HCA.out.kept hg7 (fun g hg => by have := (HPI.out.1.lt g hg).1; omega))
        have HGE := Lib.hid (grown_own (grown_trans HG1.out HGA.out) hg7 (fun g hg => (HPI.out.1.lt g hg).1))
        have HZD2 := Lib.hid (show ∀ z ∈ zs ++ [(⟨⟨x, [y, 5]⟩, some ⟨w3.heap.size, 0, none⟩, 2, 2⟩ : Pas)], DrawnP z from fun z hz => by
          rcases List.mem_append.1 hz with hz | hz
          · exact HZD.out z hz
          · rw [List.mem_singleton.1 hz]
            have h1 := HX.out
            have h2 := HY.out
            exact ⟨⟨by simp only; omega, by simp only; omega⟩, by simp, fun u hu => by simp at hu; omega⟩)
        clear hrow7 hg7 hat7
        go_wp2
        go_ret
        exact ⟨_, zs ++ [(⟨⟨x, [y, 5]⟩, some ⟨w3.heap.size, 0, none⟩, 2, 2⟩ : Pas)], rfl, HPU.out, by have := HZL.out; simp; omega, HZD2.out, HCE.out.mono (by omega), HGE.out⟩
end Go.Proofs.Ytbeonigmcbipeaa
