/- RunsOf, the program's. No condition. -/
import Derived.Test.YtfmgnbkneccekaaRcI
namespace Go.Proofs.Ytfmgnbkneccekaa
open Go Go.RowKit

def asRun (i : Nat) (z : Ent) : Run := ⟨(i : Int) + 1, z.state != 4, false, z.card⟩
theorem asRun_k (ys : List Ent) : (ys.mapIdx asRun).map Run.k = (ys.map Ent.k).mapIdx runOfE := by
  apply List.ext_getElem
  · simp
  · intro i h1 h2
    simp only [List.getElem_map, List.getElem_mapIdx]
    rfl
theorem runR_of_ent {base b2 : Nat} {w : World} {v o : Value} {ys : List Ent} (hr : Row base 94 7 w o ((ys.mapIdx asRun).map Run.lst)) (he : EntR b2 w v ys) (hb : base ≤ b2) (hne : ∀ q, EntBlk v ys q → o.ownBlock ≠ some q) : RunR base w o (ys.mapIdx asRun) := by
  refine ⟨hr, fun z hz => ?_, ?_⟩
  · obtain ⟨j, hj, rfl⟩ := List.getElem_of_mem hz
    rw [List.getElem_mapIdx]
    have hj' : j < ys.length := by simpa using hj
    have h1 := he.2.1 _ (List.getElem_mem hj')
    refine ⟨h1.1.mono hb, ?_⟩
    refine (Classical.em ((asRun j ys[j]).card.sv.ownBlock = none)).elim .inl fun hnn => .inr fun e => ?_
    obtain ⟨q, hq⟩ := Option.ne_none_iff_exists'.1 hnn
    exact hne q (.inr ⟨_, List.getElem_mem hj', hq⟩) (e ▸ hq)
  · rw [List.pairwise_iff_getElem]
    intro i j hi hj hij
    simp only [List.getElem_mapIdx]
    have h1 := List.pairwise_iff_getElem.1 he.2.2 i j (by simpa using hi) (by simpa using hj) hij
    exact h1

set_option maxRecDepth 100000 in
set_option maxHeartbeats 4000000 in
theorem impl_RunsOf (p : Race) (k : RaceK) (w : World) (hk : p.k = k) (h : p.In w) :
    Calls Try.prog 32 #[p.val] w fun e w' => ∃ v' zs, e = .returned (.tuple #[v', .bool (runsB k)]) ∧ zs.map Run.k = runsV k ∧ RunR w.heap.size w' v' zs ∧ Below w.heap.size w w' := by
  subst hk
  have hpl := h.len
  obtain ⟨cl, cd, A, n, c, xs⟩ := p
  simp only at hpl
  subst hpl
  have hW : Below w.heap.size w (w.alloc (.cells #[.int .i64 cl, .bool cd, .slice A xs.length c] 24)) := below_alloc (Below.refl _ _) _
  have HG := Lib.hid (IsRace_any _ _ (h.below hW))
  have hrc := Race.cellsNew w ⟨cl, cd, A, xs.length, c, xs⟩ 24
  have HRC := Lib.hid (fun W hW => hrc ⟨W, hW⟩)
  have HW := Lib.hid hW
  show Calls Try.prog 32 #[.agg #[.int .i64 cl, .bool cd, .slice A xs.length c]] w _
  by_cases hB : runsB (Race.k ⟨cl, cd, A, xs.length, c, xs⟩) = true
  rotate_left
  · have hB' : runsB (Race.k ⟨cl, cd, A, xs.length, c, xs⟩) = false := by simpa using hB
    have HV := Lib.hid (show runsV (Race.k ⟨cl, cd, A, xs.length, c, xs⟩) = [] by simp [runsV, hB'])
    rw [hB', HV.out]
    have hgc : goodRace (Race.k ⟨cl, cd, A, xs.length, c, xs⟩) = false ∨ cd = false := by
      have h1 := hB'
      unfold runsB at h1
      rcases Bool.and_eq_false_iff.1 h1 with h2 | h2
      · exact .inl h2
      · exact .inr h2
    obtain ⟨q, hq⟩ : ∃ q, goodRace (Race.k ⟨cl, cd, A, xs.length, c, xs⟩) = q := ⟨_, rfl⟩
    rw [hq] at HG hgc
    have HGC := Lib.hid hgc
    clear hq hB hB' hgc h hW hrc
    cases q
    · go_enter Try.func32, Try.ntmps32
      go_wp2_with (go_at_call 21; refine HG.out.mono ?_; rintro e w1 ⟨rfl, hb1⟩; have hrc1 := HRC.out _ hb1; try simp only at hrc1)
      go_ret2
      exact ⟨_, [], rfl, rfl, RunR.nil, step_ HW.out (Nat.le_refl _) hb1⟩
    · obtain rfl : cd = false := by simpa using HGC.out
      go_enter Try.func32, Try.ntmps32
      go_wp2_with (go_at_call 21; refine HG.out.mono ?_; rintro e w1 ⟨rfl, hb1⟩; have hrc1 := HRC.out _ hb1; try simp only at hrc1)
      go_ret2
      exact ⟨_, [], rfl, rfl, RunR.nil, step_ HW.out (Nat.le_refl _) hb1⟩
  have HV := Lib.hid (show runsV (Race.k ⟨cl, cd, A, xs.length, c, xs⟩) = (xs.map Ent.k).mapIdx runOfE by simp only [runsV, hB]; rfl)
  rw [hB, HV.out]
  simp only [runsB, Bool.and_eq_true] at hB
  obtain ⟨hg, hcd⟩ := hB
  simp only [Race.k] at hcd
  subst hcd
  have hl := race_len hg
  simp only [Race.k, List.length_map] at hl
  obtain ⟨hl1, hl8⟩ := hl
  have HPU := Lib.hid (show ∀ z ∈ xs, z.card.k.punches.length ≤ 1048577 from fun z hz => by
    have := race_punches hg z.k (by simp only [Race.k]; exact List.mem_map_of_mem hz)
    simp only [Ent.k] at this
    omega)
  have HNEW := Lib.hid (fun W (hW : Below w.heap.size w W) => newRace_any _ W (h.below hW) (by show xs.length ≤ _; omega) HPU.out)
  rw [hg] at HG
  have hrc0 := hrc ⟨_, Below.refl _ _⟩
  try simp only at hrc0
  have hfd : ∀ (c : Int) (d : Bool) (A : Option Addr) (n m : Nat) (w : World), (Instr.field 24 (.agg #[.int .i64 c, .bool d, .slice A n m]) 2).run Try.prog w = .ok (.slice A n m) w := fun _ _ _ _ _ _ => by kernel_rfl
  clear hg h hW hrc
  go_enter Try.func32, Try.ntmps32
  go_wp2_with (first
    | (go_at_call 21; refine HG.out.mono ?_; rintro e w1 ⟨rfl, hb1⟩; have hrc1 := HRC.out _ hb1; have hrc2 := HRC.out _ (below_alloc hb1 (.cells #[] 94)); try simp only at hrc1 hrc2)
    | (go_at_call 71; refine (HNEW.out _ (below_alloc (step_ HW.out (Nat.le_refl _) hb1) (.cells #[] 94))).mono ?_; rintro e w2 ⟨⟨cl2, cd2, A2, n2, c2, ys⟩, he, hk2, hR2, hb2⟩; obtain rfl : e = .returned (.agg #[.int .i64 cl2, .bool cd2, .slice A2 n2 c2]) := he))
  have hn2 : n2 = ys.length := RaceR.s hR2 |>.len
  subst hn2
  simp only [Race.k, RaceK.mk.injEq] at hk2
  obtain ⟨rfl, rfl, hkk⟩ := hk2
  have hyl : ys.length = xs.length := by simpa using congrArg List.length hkk
  have HR : EntR (w1.alloc (.cells #[] 94)).heap.size w2 (.slice A2 ys.length c2) ys := hR2
  have hsz1 : (w1.alloc (.cells #[] 94)).heap.size = w1.heap.size + 1 := by simp
  have hsz0 : w.heap.size + 1 ≤ w1.heap.size := by have := hb1.size; simpa using this
  rw [hsz1] at HR
  obtain ⟨g2, cap2, he2, hbg2, hg2, hcap2⟩ := HR.1.form (by simp; omega)
  simp only [Value.slice.injEq] at he2
  obtain ⟨rfl, hq2, rfl⟩ := he2
  clear hq2 hcap2
  have hrow0 : Row (w.heap.size + 1) 94 7 w2 (.slice (some ⟨w1.heap.size, 0, none⟩) 0 0) [] := Row.below (Row.lit_nil w1 94 7 hsz0) hb2
  have hne0 : ∀ q, EntBlk (.slice (some ⟨g2, 0, none⟩) ys.length c2) ys q → (Value.slice (some ⟨w1.heap.size, 0, none⟩) 0 0).ownBlock ≠ some q := fun q hq e => by
    have h1 := (HR.lt q hq).1
    simp [Value.ownBlock] at e
    omega
  have hbw : Below w.heap.size w w2 := step_ (below_alloc (step_ HW.out (Nat.le_refl _) hb1) (.cells #[] 94)) (Nat.le_refl _) hb2
  have hz2 : w.heap.size + 1 ≤ w2.heap.size := by have := hb2.size; rw [hsz1] at this; omega
  have HKK := Lib.hid hkk
  have HY0 := Lib.hid HR
  have HR0 := Lib.hid hrow0
  have HN0 := Lib.hid hne0
  have HB0 := Lib.hid hbw
  have HL8 := Lib.hid (show ys.length ≤ 8 by omega)
  clear HR hR2 hkk hrow0 hne0 hbw hrc0 hrc1 hrc2 hb1 hb2 hyl hsz1
  go_wp2
  go_loopw [4, 20] (fun o i wr => ∃ k : Nat, k ≤ ys.length ∧ i = .int .i64 k ∧ Hid (Row (w.heap.size + 1) 94 7 wr o (((ys.take k).mapIdx asRun).map Run.lst)) ∧ Hid (EntR (w1.heap.size + 1) wr (.slice (some ⟨g2, 0, none⟩) ys.length c2) ys) ∧ Hid (∀ q, EntBlk (.slice (some ⟨g2, 0, none⟩) ys.length c2) ys q → o.ownBlock ≠ some q) ∧ Hid (Below w.heap.size w wr) ∧ w.heap.size + 1 ≤ wr.heap.size)
    (fun _ i _ => ys.length - (intOf i).toNat)
  case atStart => exact ⟨0, Nat.zero_le _, rfl, HR0.out, HY0.out, HN0.out, HB0.out, hz2⟩
  case round =>
    clear HR0 HY0 HN0 HB0 hz2
    obtain ⟨k, hkl, rfl, HRO, HY, HN, HB, hz⟩ := hrel
    by_cases hlt : k < ys.length
    · have hr := HY.out.1.range (k := k) (by rw [List.length_map]; exact hlt)
      rw [List.getElem_map] at hr
      have HSK := Lib.hid (show (((ys.take (k + 1)).mapIdx asRun).map Run.lst) = (((ys.take k).mapIdx asRun).map Run.lst) ++ [(asRun k ys[k]).lst] by
        rw [List.take_succ_eq_append_getElem hlt, List.mapIdx_append, List.map_append]
        simp [Nat.min_eq_left (Nat.le_of_lt hlt)])
      have HLL := Lib.hid (show (((ys.take k).mapIdx asRun).map Run.lst).length + 1 ≤ 2147483648 by have := HL8.out; simp; omega)
      have hk8 : k < 8 := by have := HL8.out; omega
      obtain ⟨pl, hpl⟩ : ∃ pl, pl = (((ys.take k).mapIdx asRun).map Run.lst) := ⟨_, rfl⟩
      rw [← hpl] at HRO HSK HLL
      obtain ⟨x, hx⟩ : ∃ x, x = ys[k] := ⟨_, rfl⟩
      rw [← hx] at hr HSK
      obtain ⟨x0, ⟨⟨k0, k1, k2, sp⟩, B, q, f⟩⟩ := x
      have hcr := Ent.cardRange (Ent.rangeNew wr ⟨x0, ⟨⟨k0, k1, k2, sp⟩, B, q, f⟩⟩ 75)
      simp only [Nat.zero_add] at hcr
      have HB2 := Lib.hid (show Below wr.heap.size wr ((wr.alloc (.cells #[.int .i64 x0, .int .i64 k0, .int .i64 k1, .int .i64 k2, .slice B q f] 75)).alloc (.cells #[.int .i64 ((k : Int) + 1), .bool (x0 != 4), .bool false, .int .i64 k0, .int .i64 k1, .int .i64 k2, .slice B q f] 94)) from below_alloc (below_alloc (Below.refl _ _) _) _)
      have HRO2 := Lib.hid (HRO.out.below HB2.out)
      have HSR := Lib.hid (Src.lit (wr.alloc (.cells #[.int .i64 x0, .int .i64 k0, .int .i64 k1, .int .i64 k2, .slice B q f] 75)) 94 (Run.lst ⟨(k : Int) + 1, x0 != 4, false, ⟨⟨k0, k1, k2, sp⟩, B, q, f⟩⟩) (wr.heap.size + 1) (by simp) rfl (Run.one _))
      have HSZ := Lib.hid (show w.heap.size + 1 ≤ ((wr.alloc (.cells #[.int .i64 x0, .int .i64 k0, .int .i64 k1, .int .i64 k2, .slice B q f] 75)).alloc (.cells #[.int .i64 ((k : Int) + 1), .bool (x0 != 4), .bool false, .int .i64 k0, .int .i64 k1, .int .i64 k2, .slice B q f] 94)).heap.size by have := HB2.out.size; omega)
      clear hpl hx
      go_wp2_with (first
        | ((with_reducible refine at_load_ 75 ?_); refine Ent.loadImpl rfl _ rfl g2 (k * 5) rfl ⟨x0, ⟨⟨k0, k1, k2, sp⟩, B, q, f⟩⟩ hr ?_)
        | ((with_reducible refine at_load_ 73 ?_); refine Card.loadImpl rfl _ rfl wr.heap.size 1 rfl ⟨⟨k0, k1, k2, sp⟩, B, q, f⟩ hcr ?_)
        | (at_builtin; refine tyRun.append rfl _ _ rfl (w.heap.size + 1) _ _ rfl HRO2.out _ 1 1 _ rfl HSR.out HLL.out HSZ.out ?_; intro o4 w4 hrow4 hg4 hat4))
      have HB4 := Lib.hid ((step_ HB.out (Nat.le_refl _) HB2.out).grown hg4 (Nat.le_trans HB.out.size HB2.out.size) (fun q hq => by have := (HRO.out.lt q hq).1; omega))
      have HY4 := Lib.hid (EntR.keptOff (HY.out.below HB2.out) (KeptOff.of_grown (S := fun q => Value.ownBlock u4 = some q) hg4 (fun k hk => hk)) (fun q hq => HN.out q hq))
      have HN4 := Lib.hid (show ∀ q, EntBlk (.slice (some ⟨g2, 0, none⟩) ys.length c2) ys q → o4.ownBlock ≠ some q from fun q hq e => by
        rcases hat4 with h1 | h1
        · exact HN.out q hq (h1 ▸ e)
        · rw [h1] at e
          have h2 := (HY.out.lt q hq).2
          simp at e
          omega)
      have hz4 : w.heap.size + 1 ≤ w4.heap.size := Nat.le_trans HSZ.out hg4.size
      clear hg4 hat4
      go_roundw
      case rel => exact ⟨k + 1, by omega, by go_num, by show Row _ _ _ _ _ _; rw [HSK.out]; exact hrow4, HY4.out, HN4.out, HB4.out, hz4⟩
      case measure => simp [intOf]; omega
    · obtain rfl : k = ys.length := by omega
      rw [List.take_length] at HRO
      go_wp2
      go_ret2
      exact ⟨_, _, rfl, by rw [asRun_k, HKK.out], (runR_of_ent HRO.out HY.out (by omega) HN.out).mono (by omega), HB.out⟩
end Go.Proofs.Ytfmgnbkneccekaa
