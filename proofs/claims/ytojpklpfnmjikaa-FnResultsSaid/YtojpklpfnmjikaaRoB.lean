/- ResultOrder, the program's. No condition. -/
import Derived.Test.YtojpklpfnmjikaaRoL
namespace Go.Proofs.Ytojpklpfnmjikaa
open Go Go.RowKit

/-- The runs in their order. -/
def ordX (cs : List Int) (limit : Int) (xs : List Run) : List Run := putAll (ltC fun a b : Run => cmpR cs limit a.k b.k) xs
theorem ordX_map (cs : List Int) (limit : Int) (xs : List Run) : (ordX cs limit xs).map (fun p => p.runner) = (ordS cs limit (xs.map Run.k)).map RunK.runner := by
  unfold ordX ordS
  rw [← putAll_map Run.k (ltC fun a b : Run => cmpR cs limit a.k b.k) (ltX cs limit) (fun x y => rfl) xs, List.map_map]
  rfl
theorem ordX_len (cs : List Int) (limit : Int) (xs : List Run) : (ordX cs limit xs).length = xs.length := putAll_len _ _
theorem roV_no {ks : List RunK} {cs : List Int} {limit : Int} (h : askR ks cs limit = false) : roV ks cs limit = [] := by simp [roV, h]
theorem roV_yes {xs : List Run} {cs : List Int} {limit : Int} (h : askR (xs.map Run.k) cs limit = true) : roV (xs.map Run.k) cs limit = (ordX cs limit xs).map (fun p => p.runner) := by rw [ordX_map]; simp [roV, h]

set_option maxRecDepth 100000 in
set_option maxHeartbeats 4000000 in
theorem impl_ResultOrder (xs : List Run) (ks : List RunK) (v : Value) (cs : List Int) (u : Value) (limit : Int) (w : World) (hks : xs.map Run.k = ks) (h : RunS w v xs) (hs : Sl (Flat ints) 1 w u cs) (_ : ∀ x ∈ cs, I64 x) (_ : I64 limit) :
    Calls Try.prog 40 #[v, u, .int .i64 limit] w fun e w' => ∃ r, e = .returned (.tuple #[r, .bool (askR ks cs limit)]) ∧ Row w.heap.size 3 1 w' r ((roV ks cs limit).map ints) ∧ Below w.heap.size w w' := by
  subst hks
  obtain ⟨UA, uc, rfl, huc, hucm, _⟩ := hs.open_
  have hW : Below w.heap.size w ((w.alloc (.cells #[.slice UA cs.length uc] 33)).alloc (.cells #[.int .i64 limit] 3)) := below_alloc (below_alloc (Below.refl _ _) _) _
  have hc0 : ((w.alloc (.cells #[.slice UA cs.length uc] 33)).alloc (.cells #[.int .i64 limit] 3)).cell? ⟨w.heap.size, 0, none⟩ = some (.slice UA cs.length uc) :=
    After.keep (rangeAt_new w [.slice UA cs.length uc] 33 0 _ rfl) ⟨_, below_alloc (Below.refl _ _) _⟩
  have hc1 : ((w.alloc (.cells #[.slice UA cs.length uc] 33)).alloc (.cells #[.int .i64 limit] 3)).cell? ⟨w.heap.size + 1, 0, none⟩ = some (.int .i64 limit) := by
    simp
  have HAS := Lib.hid (canJudge_any xs cs limit v (.slice UA cs.length uc) _ (h.below hW) (hs.below (Flat.keeps _) hW))
  by_cases ha : askR (xs.map Run.k) cs limit = true
  rotate_left
  · have ha' : askR (xs.map Run.k) cs limit = false := by simpa using ha
    have HV := Lib.hid (roV_no ha')
    rw [ha'] at HAS ⊢
    rw [HV.out]
    have HW := Lib.hid hW
    clear ha ha' h hs hW hc0 hc1
    go_enter Try.func40, Try.ntmps40
    go_wp2_with (go_at_call 64; refine HAS.out.mono ?_; rintro e w1 ⟨rfl, hb1⟩)
    go_ret2
    exact ⟨_, rfl, Row.nil _ _ _ _, step_ HW.out (Nat.le_refl _) hb1⟩
  obtain ⟨hg, hco, hl1, hl2⟩ := askR_parts ha
  have hlen := codesOk_len hco
  have hxl := goodRs_len hg
  have HOK := Lib.hid (goodRs_ok hg)
  have HV := Lib.hid (roV_yes ha)
  have HRS := Lib.hid h
  have HSS := Lib.hid hs
  have hlt0 := block_lt_of_cell hc0
  have hlt1 := block_lt_of_cell hc1
  simp only at hlt0 hlt1
  rw [ha] at HAS ⊢
  rw [HV.out]
  clear ha h hs hg hco
  go_enter Try.func40, Try.ntmps40
  go_wp2_with fail
  generalize (w.alloc (.cells #[.slice UA cs.length uc] 33)).alloc (.cells #[.int .i64 limit] 3) = W at hW hc0 hc1 hlt0 hlt1 HAS ⊢
  refine HAS.out.mono ?_
  rintro e w1 ⟨rfl, hb1⟩
  have hk0 := After.keep hc0 ⟨w1, hb1⟩
  have hk1 := After.keep hc1 ⟨w1, hb1⟩
  simp only at hk0 hk1
  have hB1 := step_ hW (Nat.le_refl _) hb1
  go_wp2_with fail
  refine (clone_Run xs v w1 (HRS.out.1.below (Flat.keeps _) hB1) (by omega)).mono ?_
  rintro e w2 ⟨o2, rfl, row2, hb2⟩
  have hB2 := step_ hB1 (Nat.le_refl _) hb2
  have hk0 := After.keep hk0 ⟨w2, hb2⟩
  have hk1 := After.keep hk1 ⟨w2, hb2⟩
  simp only at hk0 hk1
  have hne : ∀ q, q < W.heap.size → o2.ownBlock ≠ some q := fun q hq e => by have := (row2.lt _ e).1; have := hb1.size; omega
  have hWb : ∀ W', w2.grownBy W' o2.ownBlock → Below w.heap.size w W' := fun W' hg => hB2.grown hg hB2.size (fun q hq => Nat.le_trans hB1.size (row2.lt q hq).1)
  have ownN : Own w 3 1 (w2.alloc (.cells #[] 3)) (.slice (some ⟨w2.heap.size, 0, none⟩) 0 0) [] := Own.nil hB2 _ rfl
  have hrow2 := row2.alloc (.cells #[] 3)
  have hgA : w2.grownBy (w2.alloc (.cells #[] 3)) o2.ownBlock := grown_of (below_alloc (Below.refl _ _) _)
  have hneN : o2.ownBlock ≠ some w2.heap.size := fun e => by have := (row2.lt _ e).2; omega
  go_wp2_with fail
  refine (sortStable_80 (.pointer (some ⟨w.heap.size, 0, none⟩)) (.pointer (some ⟨w.heap.size + 1, 0, none⟩)) (fun a b : Run => cmpR cs limit a.k b.k) w1.heap.size o2 xs _ hrow2 (by omega) (fun W' x y hx hy hg => by
    have hg' := grown_trans hgA hg
    have hBw := hWb W' hg'
    exact cmpRuns_any x y cs UA cs.length uc limit w.heap.size (w.heap.size + 1) W' (hg'.cell_far_ hk0 (hne _ hlt0)) (hg'.cell_far_ hk1 (hne _ hlt1)) (HSS.out.below (Flat.keeps _) hBw) (by omega) ((HRS.out.2 x hx).below hBw) ((HRS.out.2 y hy).below hBw) (HOK.out x hx) (HOK.out y hy))).mono ?_
  rintro e w3 ⟨rfl, row3, hg3⟩
  have hB3 := hWb w3 (grown_trans hgA hg3)
  have own3 : Own w 3 1 w3 (.slice (some ⟨w2.heap.size, 0, none⟩) 0 0) [] := ⟨ownN.1.kept hg3 (.inr (by simp only [Value.ownBlock]; exact fun e => hneN e.symm)), hB3⟩
  have hln := ordX_len cs limit xs
  have row3 : Row w1.heap.size 53 7 w3 o2 ((ordX cs limit xs).map Run.lst) := row3
  obtain ⟨M, hM⟩ : ∃ M, ordX cs limit xs = M := ⟨_, rfl⟩
  rw [hM] at row3 hln
  have HM := Lib.hid hM
  have hl10 : M.length ≤ 10 := by omega
  clear hln
  have HNE := Lib.hid (show o2.ownBlock = none ∨ o2.ownBlock ≠ (Value.slice (some ⟨w2.heap.size, 0, none⟩) 0 0).ownBlock from .inr hneN)
  obtain ⟨A, c, rfl, hc, hcm⟩ := row3.parts
  simp only [List.length_map] at row3 hc HNE ⊢
  have HO3 := Lib.hid own3
  clear hM hk0 hk1 hc0 hc1 HAS hB1 hB2 hb1 hb2 hrow2 hgA hneN ownN own3 hne hWb hg3 row2 hB3 hW HV hlt0 hlt1
  go_wp2
  go_loopw [9, 25] (fun o i wr => ∃ k : Nat, k ≤ M.length ∧ i = .int .i64 k ∧ Own w 3 1 wr o (((M.take k).map (fun p => p.runner)).map ints) ∧ Row w1.heap.size 53 7 wr (.slice A M.length c) (M.map Run.lst) ∧ Hid ((Value.slice A M.length c).ownBlock = none ∨ (Value.slice A M.length c).ownBlock ≠ o.ownBlock))
    (fun _ i _ => M.length - (intOf i).toNat)
  case atStart => exact ⟨0, Nat.zero_le _, rfl, by simpa using HO3.out, row3, HNE.out⟩
  case round =>
    clear HO3 row3 HNE
    obtain ⟨k, hkl, rfl, own, row3, HNE⟩ := hrel
    by_cases hlt : k < M.length
    · obtain ⟨g, cap, he, hbg, hg, hcap⟩ := row3.form (by simp; omega)
      simp only [Value.slice.injEq, List.length_map] at he
      obtain ⟨rfl, _, rfl⟩ := he
      have hr := row3.range (k := k) (by simpa using hlt)
      simp only [List.getElem_map] at hr
      have HS := Lib.hid (show ((M.take (k + 1)).map (fun p => p.runner)).map ints = ((M.take k).map (fun p => p.runner)).map ints ++ [ints M[k].runner] by rw [List.take_succ_eq_append_getElem hlt, List.map_append, List.map_append]; rfl)
      have HLL := Lib.hid (show (((M.take k).map (fun p => p.runner)).map ints).length + 1 ≤ 2147483648 by simp; omega)
      obtain ⟨pl, hpl⟩ : ∃ pl, pl = ((M.take k).map (fun p => p.runner)).map ints := ⟨_, rfl⟩
      rw [← hpl] at own HS HLL
      obtain ⟨x, hx⟩ : ∃ x, x = M[k] := ⟨_, rfl⟩
      rw [← hx] at hr HS
      have HO1 := Lib.hid ((own.alloc (.cells #[.int .i64 x.runner, .bool x.started, .bool x.out, .int .i64 x.card.k.number, .int .i64 x.card.k.start, .int .i64 x.card.k.finish, .slice x.card.a x.card.n x.card.c] 53)).alloc (.cells #[.int .i64 x.runner] 3))
      have HBR := Lib.hid ((row3.alloc (.cells #[.int .i64 x.runner, .bool x.started, .bool x.out, .int .i64 x.card.k.number, .int .i64 x.card.k.start, .int .i64 x.card.k.finish, .slice x.card.a x.card.n x.card.c] 53)).alloc (.cells #[.int .i64 x.runner] 3))
      have hcn := (Run.cellsNew wr x 53 ⟨_, Below.refl _ _⟩).1
      simp only at hcn
      have HSR := Lib.hid (show Src ((wr.alloc (.cells #[.int .i64 x.runner, .bool x.started, .bool x.out, .int .i64 x.card.k.number, .int .i64 x.card.k.start, .int .i64 x.card.k.finish, .slice x.card.a x.card.n x.card.c] 53)).alloc (.cells #[.int .i64 x.runner] 3)) 1 (some ⟨wr.heap.size + 1, 0, none⟩) 1 [ints x.runner] from Src.lit (wr.alloc (.cells #[.int .i64 x.runner, .bool x.started, .bool x.out, .int .i64 x.card.k.number, .int .i64 x.card.k.start, .int .i64 x.card.k.finish, .slice x.card.a x.card.n x.card.c] 53)) 3 (ints x.runner) (wr.heap.size + 1) (by simp) rfl (ints_one _))
      clear hpl hx own row3
      go_wp2_with (first
        | ((with_reducible refine at_load_ 53 ?_); refine Run.loadImpl rfl _ rfl g (k * 7) rfl _ hr ?_)
        | (at_builtin; refine tyInt.append rfl _ _ rfl w.heap.size _ _ rfl HO1.out.1 _ 1 1 [ints x.runner] rfl HSR.out HLL.out HO1.out.2.size ?_; intro o5 w5 hrow5 hg5 hat5))
      have HB5 := Lib.hid (HO1.out.2.grown hg5 HO1.out.2.size (fun q hq => (HO1.out.1.lt q hq).1))
      have HR5 := Lib.hid (HBR.out.kept hg5 HNE.out)
      have HN5 := Lib.hid (show (Value.slice (some ⟨g, 0, none⟩) M.length c).ownBlock = none ∨ (Value.slice (some ⟨g, 0, none⟩) M.length c).ownBlock ≠ o5.ownBlock by
        rcases hat5 with e | e
        · rw [e]; exact HNE.out
        · rw [e]; exact .inr fun e2 => by have := (HBR.out.lt _ e2).2; omega)
      go_roundw
      case rel => exact ⟨k + 1, by omega, by go_num, by rw [HS.out]; exact ⟨hrow5, HB5.out⟩, HR5.out, HN5.out⟩
      case measure => simp [intOf]; omega
    · go_wp2
      go_ret2
      obtain rfl : k = M.length := by omega
      rw [List.take_length] at own
      exact ⟨_, rfl, by rw [HM.out]; exact own.1, own.2⟩
end Go.Proofs.Ytojpklpfnmjikaa
