/- Finishers in the program's memory, and its sort of them by three comparisons. No condition. -/
import Derived.Test.YtabgmbmaakglkaaHtE
import Derived.Test.YtabgmbmaakglkaaFsk
import Derived.Test.YtabgmbmaakglkaaShq
import Derived.StillTailTactics
namespace Go.Proofs.Ytabgmbmaakglkaa
open Go Go.RowKit

instance : Inhabited Fns := ⟨⟨0, 0, 0⟩⟩
def Fns.I (f : Fns) : List Value := [.int .i64 f.runner, .int .i64 f.time, .int .i64 f.place]
theorem Fns.I_len (f : Fns) : f.I.length = 3 := rfl
theorem Fns.I_one (f : Fns) : ∀ u ∈ f.I, u.oneCell' = true := by simp [Fns.I, Value.oneCell']
theorem tyFin : Ty Try.prog 74 82 (.agg #[.int .i64 0, .int .i64 0, .int .i64 0]) [.int .i64 0, .int .i64 0, .int .i64 0] 3 24 := ⟨Try.underlying74, by kernel_rfl, rfl, rfl, by decide, by decide⟩
theorem stFin : St Try.prog 82 3 := ⟨⟨_, Try.underlying82⟩, by kernel_rfl⟩
theorem Fns.cellsI {w : World} {b off : Nat} {f : Fns} (h : w.rangeAt b off f.I) : w.cell? ⟨b, off, none⟩ = some (.int .i64 f.runner) ∧ w.cell? ⟨b, off + 1, none⟩ = some (.int .i64 f.time) ∧ w.cell? ⟨b, off + 2, none⟩ = some (.int .i64 f.place) :=
  ⟨h 0 _ rfl, h 1 _ rfl, h 2 _ rfl⟩
theorem Fns.loadI {w : World} {ops : Array Oper} {rest : List Oper} {o : Oper} {a : Act} {Q : Exit → Act → World → Prop} (hgd : o.guard = none) (x : Operand) (ho : o.op = .load 82 x) (b off : Nat) (hx : a.eval x = .pointer (some ⟨b, off, none⟩)) (f : Fns) (hc : w.rangeAt b off f.I)
    (h : wpList Try.prog ops Q rest (a.put o.dst (.agg #[.int .i64 f.runner, .int .i64 f.time, .int .i64 f.place])) w) : wpList Try.prog ops Q (o :: rest) a w := stFin.load hgd x ho b off hx f.I rfl hc h
/-- A guard: the operation is a load of this type. -/
theorem lit2_cells (W : World) (e : TypeId) (x y : Value) (g : Nat) (hg : W.heap.size = g) : (W.alloc (.cells #[x, y] e)).drew.cell? ⟨g, 0, none⟩ = some x ∧ (W.alloc (.cells #[x, y] e)).drew.cell? ⟨g, 1, none⟩ = some y := by
  subst hg
  have h := rangeAt_new W [x, y] e
  exact ⟨h 0 _ rfl, h 1 _ rfl⟩
theorem lit3_cells (W : World) (e : TypeId) (x y z : Value) (g : Nat) (hg : W.heap.size = g) : (W.alloc (.cells #[x, y, z] e)).drew.cell? ⟨g, 0, none⟩ = some x ∧ (W.alloc (.cells #[x, y, z] e)).drew.cell? ⟨g, 1, none⟩ = some y ∧ (W.alloc (.cells #[x, y, z] e)).drew.cell? ⟨g, 2, none⟩ = some z := by
  subst hg
  have h := rangeAt_new W [x, y, z] e
  exact ⟨h 0 _ rfl, h 1 _ rfl, h 2 _ rfl⟩
set_option maxHeartbeats 1000000 in
theorem or3_any (x y z : Int) (b : Nat) (w : World) (hx : w.cell? ⟨b, 0, none⟩ = some (.int .i64 x)) (hy : w.cell? ⟨b, 1, none⟩ = some (.int .i64 y)) (hz : w.cell? ⟨b, 2, none⟩ = some (.int .i64 z)) :
    Calls Try.prog 66 #[.slice (some ⟨b, 0, none⟩) 3 3] w fun e w' => e = .returned (.int .i64 (orI x (orI y z))) ∧ w = w' := by
  obtain ⟨r, hr⟩ : ∃ r, orI x (orI y z) = r := ⟨_, rfl⟩
  rw [hr]
  have HO := Lib.hid hr
  clear hr
  by_cases h1 : x = 0
  · have h1' : (x != 0) = false := by simpa using h1
    have H1 := Lib.hid h1
    clear h1
    by_cases h2 : y = 0
    · have h2' : (y != 0) = false := by simpa using h2
      have H2 := Lib.hid h2
      clear h2
      by_cases h3 : z = 0
      · have h3' : (z != 0) = false := by simpa using h3
        have H3 := Lib.hid h3
        clear h3
        go_enter Try.func66, Try.ntmps66
        go_wp2_with fail
        refine wp_loop_rounds 4 ?_
        rw [rounds_succ]
        go_wp2
        rw [rounds_succ]
        go_wp2
        rw [rounds_succ]
        go_wp2
        rw [rounds_succ]
        go_wp2
        go_ret
        exact ⟨ret_int (by rw [← HO.out]; simp [orI, H1.out, H2.out, H3.out]), rfl⟩
      · have h3' : (z != 0) = true := by simpa using h3
        clear h3
        go_enter Try.func66, Try.ntmps66
        go_wp2_with fail
        refine wp_loop_rounds 3 ?_
        rw [rounds_succ]
        go_wp2
        rw [rounds_succ]
        go_wp2
        rw [rounds_succ]
        go_wp2
        go_ret
        exact ⟨ret_int (by rw [← HO.out]; simp [orI, H1.out, H2.out]), rfl⟩
    · have h2' : (y != 0) = true := by simpa using h2
      have H2 := Lib.hid h2
      clear h2
      go_enter Try.func66, Try.ntmps66
      go_wp2_with fail
      refine wp_loop_rounds 2 ?_
      rw [rounds_succ]
      go_wp2
      rw [rounds_succ]
      go_wp2
      go_ret
      exact ⟨ret_int (by rw [← HO.out]; simp [orI, H1.out, H2.out]), rfl⟩
  · have h1' : (x != 0) = true := by simpa using h1
    have H1 := Lib.hid h1
    clear h1
    go_enter Try.func66, Try.ntmps66
    go_wp2_with fail
    refine wp_loop_rounds 1 ?_
    rw [rounds_succ]
    go_wp2
    go_ret
    exact ⟨ret_int (by rw [← HO.out]; simp [orI, H1.out]), rfl⟩

def cfT (a b : Fns) : Int := cmpI a.time b.time
def cfTR (a b : Fns) : Int := orI (cmpI a.time b.time) (cmpI a.runner b.runner)
def cfPTR (a b : Fns) : Int := orI (cmpI a.place b.place) (orI (cmpI a.time b.time) (cmpI a.runner b.runner))
theorem cfT_lt (a b : Fns) : ltOf cfT a b = ltT a b := by
  unfold ltOf cfT ltT cmpI
  by_cases h : a.time < b.time
  · simp [h]
  · simp only [h, if_false]; split <;> simp
theorem cfTR_lt (a b : Fns) : ltOf cfTR a b = ltTR a b := by
  unfold ltOf cfTR ltTR orI cmpI
  repeat' split
  all_goals simp
  all_goals omega
theorem cfPTR_lt (a b : Fns) : ltOf cfPTR a b = ltPTR a b := by
  unfold ltOf cfPTR ltPTR ltTR orI cmpI
  repeat' split
  all_goals simp
  all_goals omega
theorem swo_of {lt : Fns → Fns → Bool} (h0 : ∀ x, lt x x = false) (h1 : ∀ x y z, lt x y = true → lt y z = true → lt x z = true) (h2 : ∀ x y z, lt x y = false → lt y z = false → lt x z = false) {cf : Fns → Fns → Int} (h : ∀ a b, ltOf cf a b = lt a b) : Sort.SWO (ltOf cf) where
  irrefl x := by rw [h]; exact h0 x
  trans x y z := by rw [h, h, h]; exact h1 x y z
  ntrans x y z := by rw [h, h, h]; exact h2 x y z
theorem swoT : Sort.SWO (ltOf cfT) := swo_of (lt := ltT) (fun x => by simp [ltT]) (fun x y z h1 h2 => by simp [ltT] at *; omega) (fun x y z h1 h2 => by simp [ltT] at *; omega) cfT_lt
theorem swoTR : Sort.SWO (ltOf cfTR) := swo_of (lt := ltTR) (fun x => by rw [ltTR_no]; omega) (fun x y z h1 h2 => by rw [ltTR_iff] at *; omega) (fun x y z h1 h2 => by rw [ltTR_no] at *; omega) cfTR_lt
theorem swoPTR : Sort.SWO (ltOf cfPTR) := swo_of (lt := ltPTR) (fun x => by rw [ltPTR_no]; omega) (fun x y z h1 h2 => by rw [ltPTR_iff] at *; omega) (fun x y z h1 h2 => by rw [ltPTR_no] at *; omega) cfPTR_lt

set_option maxHeartbeats 1000000 in
theorem byTime_any (p q : Fns) (w : World) : Calls Try.prog 84 #[.agg p.I.toArray, .agg q.I.toArray] w fun e w' => e = .returned (.int .i64 (cfT p q)) ∧ Gr w w' := by
  obtain ⟨a, b, c⟩ := p
  obtain ⟨a', b', c'⟩ := q
  show Calls Try.prog 84 #[.agg #[.int .i64 c, .int .i64 b, .int .i64 a], .agg #[.int .i64 c', .int .i64 b', .int .i64 a']] w fun e w' => e = .returned (.int .i64 (cmpI b b')) ∧ Gr w w'
  have HG := Lib.hid (((Gr.refl w).alloc (.cells #[.int .i64 c, .int .i64 b, .int .i64 a] 82)).alloc (.cells #[.int .i64 c', .int .i64 b', .int .i64 a'] 82))
  go_enter Try.func84, Try.ntmps84
  go_wp2_with (go_at_call 67; refine (compare_any _ _ _).mono ?_; rintro e w' ⟨rfl, rfl⟩)
  go_ret
  exact ⟨rfl, HG.out⟩

set_option maxRecDepth 100000 in
set_option maxHeartbeats 1000000 in
theorem byTimeRunner_any (p q : Fns) (w : World) : Calls Try.prog 86 #[.agg p.I.toArray, .agg q.I.toArray] w fun e w' => e = .returned (.int .i64 (cfTR p q)) ∧ Gr w w' := by
  obtain ⟨a, b, c⟩ := p
  obtain ⟨a', b', c'⟩ := q
  show Calls Try.prog 86 #[.agg #[.int .i64 c, .int .i64 b, .int .i64 a], .agg #[.int .i64 c', .int .i64 b', .int .i64 a']] w fun e w' => e = .returned (.int .i64 (orI (cmpI b b') (cmpI c c'))) ∧ Gr w w'
  obtain ⟨R, hR⟩ : ∃ R, R = orI (cmpI b b') (cmpI c c') := ⟨_, rfl⟩
  rw [← hR]
  have HR := Lib.hid hR
  clear hR
  have F12 := Lib.hid (fun x y : Int => lit2_cells (((w.alloc (.cells #[.int .i64 c, .int .i64 b, .int .i64 a] 82)).alloc (.cells #[.int .i64 c', .int .i64 b', .int .i64 a'] 82))) 3 (.int .i64 x) (.int .i64 y) (w.heap.size + 1 + 1) (by simp))
  have HG := Lib.hid (fun (x y : Int) => ((((Gr.refl w).alloc (.cells #[.int .i64 c, .int .i64 b, .int .i64 a] 82)).alloc (.cells #[.int .i64 c', .int .i64 b', .int .i64 a'] 82)).alloc (.cells #[.int .i64 x, .int .i64 y] 3)).drew)
  go_enter Try.func86, Try.ntmps86
  go_wp2
  refine wp_region_still_tail 10 (by kernel_rfl) (by kernel_rfl) ?_
  change wpStill _ _ (World.drew _) (fun a' => wpList _ _ _ _ a' (World.drew _)) _ _
  simp only [List.take_succ_cons, List.take_zero, List.drop_succ_cons, List.drop_zero]
  iterate 4 still_step
  still_call ((compare_any _ _ _).mono (fun e w' h => ⟨h.1, h.2.symm⟩))
  iterate 4 still_step
  still_call ((compare_any _ _ _).mono (fun e w' h => ⟨h.1, h.2.symm⟩))
  refine wpStill_nil ?_
  revert HR
  generalize cmpI b b' = x
  generalize cmpI c c' = y
  intro HR
  go_wp2_with (go_at_call 66; refine (or_any x y (w.heap.size + 1 + 1) _ (F12.out x y).1 (F12.out x y).2).mono ?_; rintro e w' ⟨rfl, rfl⟩)
  go_ret
  exact ⟨ret_int HR.out.symm, HG.out x y⟩

set_option maxRecDepth 100000 in
set_option maxHeartbeats 1000000 in
theorem byPlace_any (p q : Fns) (w : World) : Calls Try.prog 65 #[.agg p.I.toArray, .agg q.I.toArray] w fun e w' => e = .returned (.int .i64 (cfPTR p q)) ∧ Gr w w' := by
  obtain ⟨a, b, c⟩ := p
  obtain ⟨a', b', c'⟩ := q
  show Calls Try.prog 65 #[.agg #[.int .i64 c, .int .i64 b, .int .i64 a], .agg #[.int .i64 c', .int .i64 b', .int .i64 a']] w fun e w' => e = .returned (.int .i64 (orI (cmpI a a') (orI (cmpI b b') (cmpI c c')))) ∧ Gr w w'
  obtain ⟨R, hR⟩ : ∃ R, R = orI (cmpI a a') (orI (cmpI b b') (cmpI c c')) := ⟨_, rfl⟩
  rw [← hR]
  have HR := Lib.hid hR
  clear hR
  have F12 := Lib.hid (fun x y z : Int => lit3_cells (((w.alloc (.cells #[.int .i64 c, .int .i64 b, .int .i64 a] 82)).alloc (.cells #[.int .i64 c', .int .i64 b', .int .i64 a'] 82))) 3 (.int .i64 x) (.int .i64 y) (.int .i64 z) (w.heap.size + 1 + 1) (by simp))
  have HG := Lib.hid (fun (x y z : Int) => ((((Gr.refl w).alloc (.cells #[.int .i64 c, .int .i64 b, .int .i64 a] 82)).alloc (.cells #[.int .i64 c', .int .i64 b', .int .i64 a'] 82)).alloc (.cells #[.int .i64 x, .int .i64 y, .int .i64 z] 3)).drew)
  go_enter Try.func65, Try.ntmps65
  go_wp2
  refine wp_region_still_tail 15 (by kernel_rfl) (by kernel_rfl) ?_
  change wpStill _ _ (World.drew _) (fun a' => wpList _ _ _ _ a' (World.drew _)) _ _
  simp only [List.take_succ_cons, List.take_zero, List.drop_succ_cons, List.drop_zero]
  iterate 4 still_step
  still_call ((compare_any _ _ _).mono (fun e w' h => ⟨h.1, h.2.symm⟩))
  iterate 4 still_step
  still_call ((compare_any _ _ _).mono (fun e w' h => ⟨h.1, h.2.symm⟩))
  iterate 4 still_step
  still_call ((compare_any _ _ _).mono (fun e w' h => ⟨h.1, h.2.symm⟩))
  refine wpStill_nil ?_
  revert HR
  generalize cmpI a a' = x
  generalize cmpI b b' = y
  generalize cmpI c c' = z
  intro HR
  go_wp2_with (go_at_call 66; refine (or3_any x y z (w.heap.size + 1 + 1) _ (F12.out x y z).1 (F12.out x y z).2.1 (F12.out x y z).2.2).mono ?_; rintro e w' ⟨rfl, rfl⟩)
  go_ret
  exact ⟨ret_int HR.out.symm, HG.out x y z⟩

theorem perm_list {d d' : Array Fns} (h : Sort.PermIn 0 d.size d d') : d.toList.Perm d'.toList := by
  obtain ⟨h1, _, h2⟩ := h
  have e1 : (d.extract 0 d.size).toList = d.toList := by simp
  have e2 : (d'.extract 0 d.size).toList = d'.toList := by rw [← h1]; simp
  rw [e1, e2] at h2
  exact h2.symm
theorem sorted_list {lt : Fns → Fns → Bool} {d d' : Array Fns} (h0 : d'.size = d.size) (h : Sort.SortedIn lt 0 d.size d') : d'.toList.Pairwise fun a b => lt b a = false := by
  rw [List.pairwise_iff_getElem]
  intro i j hi hj hij
  have hi' : i < d'.size := by simpa using hi
  have hj' : j < d'.size := by simpa using hj
  have := h i j (Nat.zero_le _) hij (by omega)
  rw [getElem!_pos d' j hj', getElem!_pos d' i hi'] at this
  simpa using this

/-- slices.SortFunc on a row of finishers of the call's own. -/
theorem sortFin_any (cf : Fns → Fns → Int) (hO : Sort.SWO (ltOf cf)) (fn : Nat) (eg : ∀ args w, (callFunc fn args).run Try.prog w = .ok (.enter fn args) w)
    (hf : ∀ W x y, Calls Try.prog fn #[.agg (Fns.I x).toArray, .agg (Fns.I y).toArray] W fun e w' => e = .returned (.int .i64 (cf x y)) ∧ Gr W w')
    (base : Nat) (v : Value) (xs : List Fns) (w : World) (hrow : Row base 82 3 w v (xs.map Fns.I)) (hl : xs.length ≤ 2147483648) :
    Calls Try.prog 64 #[v, .func (.func fn) #[] #[]] w fun e w' => e = .returned (.tuple #[]) ∧ ∃ ys, xs.Perm ys ∧ ys.Pairwise (fun a b => ltOf cf b a = false) ∧ Row base 82 3 w' v (ys.map Fns.I) ∧ w.grownBy w' v.ownBlock := by
  have hrow' := hrow
  rcases hrow.2.2 with ⟨rfl, hn⟩ | ⟨g, cap, cur, rfl, hb, hg, hnc, hcm, hcs, htake⟩
  · have hx : xs = [] := List.eq_nil_of_length_eq_zero (by simpa using hn)
    subst hx
    have hS := AnyF.slices_SortFunc_none (P := Try.prog) (ρ := sortFin_ren) sortFin none 0 (.func (.func fn) #[] #[]) w
    exact hS.mono fun e w' ⟨he, hw⟩ => ⟨he, [], List.Perm.refl _, List.Pairwise.nil, by rw [hw]; exact hrow', by rw [hw]; exact World.grownBy.refl _ _⟩
  · have hgl : g < w.heap.size := (Array.getElem?_eq_some_iff.1 hg).1
    simp only [List.length_map] at hrow' ⊢
    have hS := AnyQ.slices_SortFunc (P := Try.prog) (ρ := sortFin_ren) sortFin 3 (by intro w; kernel_rfl) (by intro w; kernel_rfl) Fns.I Fns.I_len Fns.I_one cf hO fn #[] g 0 cap xs.toArray w eg
      (fun m os dk _ x y => (hf _ x y).mono fun e w' ⟨he, hw⟩ => ⟨he, hw⟩) (holdsK_of_row hrow' Fns.I_len (by decide)) hgl (by simp; omega)
    refine Calls.mono (show Calls Try.prog 64 #[.slice (some ⟨g, 0, none⟩) xs.length cap, .func (.func fn) #[] #[]] w _ from hS) ?_
    rintro e w' ⟨he, d', n, os, hp, hs, hw⟩
    have hd : d'.size = xs.length := by simpa using hp.1
    obtain ⟨r1, r2⟩ := Row.sorted_ hrow' Fns.I_len (by decide) d' hd n os
    refine ⟨he, d'.toList, by simpa using perm_list hp, sorted_list (by simpa using hd) hs, ?_, ?_⟩
    · rw [hw]; exact r1
    · rw [hw]; exact r2
end Go.Proofs.Ytabgmbmaakglkaa
