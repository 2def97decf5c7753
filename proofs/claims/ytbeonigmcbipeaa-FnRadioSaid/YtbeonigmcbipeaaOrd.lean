/- The walks of the orders at a place, of the program. -/
import Derived.Test.YtbeonigmcbipeaaOrdL
import Derived.Test.YtbeonigmcbipeaaOrdM
namespace Go.Proofs.Ytbeonigmcbipeaa
open Go Go.RowKit

/-- What the orders compare: the split, or the time from the split before. -/
def keyS (P : Nat) (k : PK) : Int := atP k P
def keyL (P : Nat) (k : PK) : Int := if P = 0 then atP k 0 else atP k P - atP k (P - 1)
def wasAt (P : Nat) (k : PK) : Bool := decide (P < k.splits.length)

theorem short_any (p : Pas) (P : Nat) (b : Nat) (w : World) (hc : w.cell? ⟨b, 0, none⟩ = some (.int .i64 P)) (hin : p.In w) :
    Calls Try.prog 85 #[p.val, .pointer (some ⟨b, 0, none⟩)] w fun e w' => e = .returned (.bool (!wasAt P p.k)) ∧ Below w.heap.size w w' := by
  have hpl := hin.len
  obtain ⟨⟨r, sp⟩, A, n, c⟩ := p
  simp only at hpl
  subst hpl
  have hlt := block_lt_of_cell hc
  simp only at hlt
  show Calls Try.prog 85 #[.agg #[.int .i64 r, .slice A sp.length c], .pointer (some ⟨b, 0, none⟩)] w _
  have hcw : (w.alloc (.cells #[.int .i64 r, .slice A sp.length c] 49)).cell? ⟨b, 0, none⟩ = some (.int .i64 P) := After.keep hc ⟨_, below_alloc (Below.refl _ _) _⟩
  have HR := Lib.hid (show (!wasAt P ⟨r, sp⟩) = decide (sp.length ≤ P) by unfold wasAt; rw [Bool.eq_iff_iff]; simp)
  clear hin
  go_enter Try.func85, Try.ntmps85
  go_wp2
  go_ret
  exact ⟨ret_bool (by (rw [HR.out] <;> rfl)), by (repeat (first | exact Below.refl _ _ | assumption | refine Below.drew ?_ | refine Below.alloc ?_ (by first | exact Nat.le_refl _ | (simp; done) | (simp; omega)) _))⟩

set_option maxHeartbeats 1000000 in
theorem key_80 (p : Pas) (P : Nat) (b : Nat) (w : World) (hc : w.cell? ⟨b, 0, none⟩ = some (.int .i64 P)) (hin : p.In w) (hP : P < p.k.splits.length) (_ : ∀ i, i < p.k.splits.length → 1 ≤ atP p.k i ∧ atP p.k i ≤ 36000) (_ : P ≤ 3) :
    Calls Try.prog 80 #[p.val, .pointer (some ⟨b, 0, none⟩)] w fun e w' => e = .returned (.int .i64 (keyS P p.k)) ∧ Below w.heap.size w w' := by
  have hpl := hin.len
  obtain ⟨⟨r, sp⟩, A, n, c⟩ := p
  simp only at hpl hP
  subst hpl
  obtain ⟨b1, o1, ha, hcell⟩ := Pas.look hin (P := P) hP
  simp only at ha
  subst ha
  have hlt := block_lt_of_cell hc
  simp only at hlt
  show Calls Try.prog 80 #[.agg #[.int .i64 r, .slice (some ⟨b1, o1, none⟩) sp.length c], .pointer (some ⟨b, 0, none⟩)] w _
  have hW : Below w.heap.size w (w.alloc (.cells #[.int .i64 r, .slice (some ⟨b1, o1, none⟩) sp.length c] 49)) := below_alloc (Below.refl _ _) _
  have hcw : (w.alloc (.cells #[.int .i64 r, .slice (some ⟨b1, o1, none⟩) sp.length c] 49)).cell? ⟨b, 0, none⟩ = some (.int .i64 P) := After.keep hc ⟨_, hW⟩
  have hcs : (w.alloc (.cells #[.int .i64 r, .slice (some ⟨b1, o1, none⟩) sp.length c] 49)).cell? ⟨b1, o1 + P, none⟩ = some (.int .i64 (atP ⟨r, sp⟩ P)) := hcell ⟨_, hW⟩
  have HR := Lib.hid (show keyS P ⟨r, sp⟩ = atP ⟨r, sp⟩ P from rfl)
  rw [HR.out]
  obtain ⟨t, ht⟩ : ∃ t, t = atP ⟨r, sp⟩ P := ⟨_, rfl⟩
  rw [← ht] at hcs ⊢
  clear hin hcell ht HR
  go_enter Try.func80, Try.ntmps80
  go_wp2
  go_ret
  exact ⟨rfl, hW⟩

set_option maxHeartbeats 2000000 in
theorem key_69 (p : Pas) (P : Nat) (b : Nat) (w : World) (hc : w.cell? ⟨b, 0, none⟩ = some (.int .i64 P)) (hin : p.In w) (hP : P < p.k.splits.length) (hok : ∀ i, i < p.k.splits.length → 1 ≤ atP p.k i ∧ atP p.k i ≤ 36000) (h3 : P ≤ 3) :
    Calls Try.prog 69 #[p.val, .pointer (some ⟨b, 0, none⟩)] w fun e w' => e = .returned (.int .i64 (keyL P p.k)) ∧ Below w.heap.size w w' := by
  have hpl := hin.len
  obtain ⟨⟨r, sp⟩, A, n, c⟩ := p
  simp only at hpl hP hok
  subst hpl
  obtain ⟨b1, o1, ha, hcell⟩ := Pas.look hin (P := P) hP
  have hlow := hin.at (pl := P - 1) (by simp only; omega)
  simp only at ha
  subst ha
  obtain ⟨b2, o2, ha2, hcl2⟩ := hlow
  simp only [Option.some.injEq, Addr.mk.injEq, and_true] at ha2
  obtain ⟨rfl, rfl⟩ := ha2
  have hlt := block_lt_of_cell hc
  simp only at hlt
  show Calls Try.prog 69 #[.agg #[.int .i64 r, .slice (some ⟨b1, o1, none⟩) sp.length c], .pointer (some ⟨b, 0, none⟩)] w _
  have hW : Below w.heap.size w (w.alloc (.cells #[.int .i64 r, .slice (some ⟨b1, o1, none⟩) sp.length c] 49)) := below_alloc (Below.refl _ _) _
  have hcn := Pas.cellsNew w ⟨⟨r, sp⟩, some ⟨b1, o1, none⟩, sp.length, c⟩ 49
  simp only at hcn
  have hcw : ∀ s : After (w.alloc (.cells #[.int .i64 r, .slice (some ⟨b1, o1, none⟩) sp.length c] 49)), s.w'.cell? ⟨b, 0, none⟩ = some (.int .i64 P) := fun s => After.keep hc ⟨s.w', step_ hW (Nat.le_refl _) s.hb⟩
  have hcs : ∀ s : After (w.alloc (.cells #[.int .i64 r, .slice (some ⟨b1, o1, none⟩) sp.length c] 49)), s.w'.cell? ⟨b1, o1 + P, none⟩ = some (.int .i64 (atP ⟨r, sp⟩ P)) := fun s => hcell ⟨s.w', step_ hW (Nat.le_refl _) s.hb⟩
  have hct : ∀ s : After (w.alloc (.cells #[.int .i64 r, .slice (some ⟨b1, o1, none⟩) sp.length c] 49)), s.w'.cell? ⟨b1, o1 + (P - 1), none⟩ = some (.int .i64 (atP ⟨r, sp⟩ (P - 1))) := fun s => After.keep hcl2 ⟨s.w', step_ hW (Nat.le_refl _) s.hb⟩
  have hb1 := hok P hP
  have hb2 := hok (P - 1) (by omega)
  have hcw0 := hcw ⟨_, Below.refl _ _⟩
  have hcs0 := hcs ⟨_, Below.refl _ _⟩
  have HW := Lib.hid hW
  clear hin hcell hcl2 hok hW hc
  by_cases h0 : P = 0
  · subst h0
    have HR := Lib.hid (show keyL 0 ⟨r, sp⟩ = atP ⟨r, sp⟩ 0 from rfl)
    rw [HR.out]
    obtain ⟨t, ht⟩ : ∃ t, t = atP ⟨r, sp⟩ 0 := ⟨_, rfl⟩
    rw [← ht] at hcs0 ⊢
    simp only [Nat.add_zero] at hcs0
    clear ht hct hcs hcw hb1 hb2
    go_enter Try.func69, Try.ntmps69
    go_wp2
    go_ret
    exact ⟨rfl, HW.out⟩
  · have HR := Lib.hid (show keyL P ⟨r, sp⟩ = atP ⟨r, sp⟩ P - atP ⟨r, sp⟩ (P - 1) by unfold keyL; rw [if_neg h0])
    rw [HR.out]
    obtain ⟨t, ht⟩ : ∃ t, t = atP ⟨r, sp⟩ P := ⟨_, rfl⟩
    obtain ⟨u, hu⟩ : ∃ u, u = atP ⟨r, sp⟩ (P - 1) := ⟨_, rfl⟩
    rw [← ht] at hcs hb1 ⊢
    rw [← hu] at hct hb2 ⊢
    obtain ⟨hb11, hb12⟩ := hb1
    obtain ⟨hb21, hb22⟩ := hb2
    have hp0 : ((P : Int) == 0) = false := by rw [beq_eq_false_iff_ne]; omega
    have hP1 : 1 ≤ P := by omega
    clear ht hu hcs0 h0
    go_enter Try.func69, Try.ntmps69
    go_wp2
    refine region_after (by kernel_rfl) (by kernel_rfl) ?_
    repeat (any_goals (first | go_big_quiet_step (fail)  | quiet_step (fail)))
    refine wpQuiet_nil ?_
    intro s
    go_wp2
    go_ret
    exact ⟨rfl, step_ HW.out (Nat.le_refl _) s.hb⟩

set_option maxRecDepth 100000 in
set_option maxHeartbeats 2000000 in
theorem cmpBy_80 (p q : Pas) (kf : PK → Int) (b f : Nat) (w : World) (hf : w.cell? ⟨f, 0, none⟩ = some (.func (.func 80) #[] #[.pointer (some ⟨b, 0, none⟩)]))
    (hp : ∀ s : After w, Calls Try.prog 80 #[p.val, .pointer (some ⟨b, 0, none⟩)] s.w' fun e w' => e = .returned (.int .i64 (kf p.k)) ∧ Below s.w'.heap.size s.w' w')
    (hq : ∀ s : After w, Calls Try.prog 80 #[q.val, .pointer (some ⟨b, 0, none⟩)] s.w' fun e w' => e = .returned (.int .i64 (kf q.k)) ∧ Below s.w'.heap.size s.w' w') :
    Calls Try.prog 87 #[p.val, q.val, .pointer (some ⟨f, 0, none⟩)] w fun e w' => e = .returned (.int .i64 (cmpI (kf p.k) (kf q.k))) ∧ Below w.heap.size w w' := by
  obtain ⟨⟨r, sp⟩, A, n, c⟩ := p
  obtain ⟨⟨r', sp'⟩, A', n', c'⟩ := q
  have hlt := block_lt_of_cell hf
  simp only at hlt
  simp only [Pas.val, Pas.lst] at hp hq
  obtain ⟨t1, ht1⟩ : ∃ t1, t1 = kf ⟨r, sp⟩ := ⟨_, rfl⟩
  obtain ⟨t2, ht2⟩ : ∃ t2, t2 = kf ⟨r', sp'⟩ := ⟨_, rfl⟩
  show Calls Try.prog 87 #[.agg #[.int .i64 r, .slice A n c], .agg #[.int .i64 r', .slice A' n' c'], .pointer (some ⟨f, 0, none⟩)] w fun e w' => e = .returned (.int .i64 (cmpI (kf ⟨r, sp⟩) (kf ⟨r', sp'⟩))) ∧ Below w.heap.size w w'
  rw [← ht1, ← ht2]
  rw [← ht1] at hp
  rw [← ht2] at hq
  clear ht1 ht2
  have hW : Below w.heap.size w ((w.alloc (.cells #[.int .i64 r, .slice A n c] 49)).alloc (.cells #[.int .i64 r', .slice A' n' c'] 49)) := below_alloc (below_alloc (Below.refl _ _) _) _
  have hf2 : ∀ s : After ((w.alloc (.cells #[.int .i64 r, .slice A n c] 49)).alloc (.cells #[.int .i64 r', .slice A' n' c'] 49)), s.w'.cell? ⟨f, 0, none⟩ = some (.func (.func 80) #[] #[.pointer (some ⟨b, 0, none⟩)]) := fun s => After.keep hf ⟨s.w', step_ hW (Nat.le_refl _) s.hb⟩
  have hr1 := rangeAt_below (Pas.rangeNew w ⟨⟨r, sp⟩, A, n, c⟩ 49) (below_alloc (Below.refl _ _) (.cells #[.int .i64 r', .slice A' n' c'] 49))
  have hr2 := Pas.rangeNew (w.alloc (.cells #[.int .i64 r, .slice A n c] 49)) ⟨⟨r', sp'⟩, A', n', c'⟩ 49
  have hsz : (w.alloc (.cells #[.int .i64 r, .slice A n c] 49)).heap.size = w.heap.size + 1 := by simp
  rw [hsz] at hr2
  have HP := Lib.hid (show ∀ s : After ((w.alloc (.cells #[.int .i64 r, .slice A n c] 49)).alloc (.cells #[.int .i64 r', .slice A' n' c'] 49)), Calls Try.prog 80 #[.agg #[.int .i64 r, .slice A n c], .pointer (some ⟨b, 0, none⟩)] s.w' fun e w' => e = .returned (.int .i64 t1) ∧ Below s.w'.heap.size s.w' w' from fun s => hp ⟨s.w', step_ hW (Nat.le_refl _) s.hb⟩)
  have HQ := Lib.hid (show ∀ s : After ((w.alloc (.cells #[.int .i64 r, .slice A n c] 49)).alloc (.cells #[.int .i64 r', .slice A' n' c'] 49)), Calls Try.prog 80 #[.agg #[.int .i64 r', .slice A' n' c'], .pointer (some ⟨b, 0, none⟩)] s.w' fun e w' => e = .returned (.int .i64 t2) ∧ Below s.w'.heap.size s.w' w' from fun s => hq ⟨s.w', step_ hW (Nat.le_refl _) s.hb⟩)
  have HW := Lib.hid hW
  clear hp hq hsz hW hf
  go_enter Try.func87, Try.ntmps87
  go_wp2_with fail
  refine region_after (by kernel_rfl) (by kernel_rfl) ?_
  repeat (any_goals (first | go_big_quiet_step ((first | (go_at_call 80; first | (with_reducible exact Calls.after (v := .int .i64 t1) _ (HP.out _)) | (with_reducible exact Calls.after (v := .int .i64 t2) _ (HQ.out _))) | (go_at_call 88; exact Calls.after_same (v := .int .i64 (cmpI t1 t2)) _ ((compare_any _ _ _).mono (fun e w' h => h))))) | (refine Pas.qloadImpl rfl _ rfl w.heap.size 0 rfl ⟨⟨r, sp⟩, A, n, c⟩ hr1 ?_) | (refine Pas.qloadImpl rfl _ rfl (w.heap.size + 1) 0 rfl ⟨⟨r', sp'⟩, A', n', c'⟩ hr2 ?_) | quiet_step ((first | (go_at_call 80; first | (with_reducible exact Calls.after (v := .int .i64 t1) _ (HP.out _)) | (with_reducible exact Calls.after (v := .int .i64 t2) _ (HQ.out _))) | (go_at_call 88; exact Calls.after_same (v := .int .i64 (cmpI t1 t2)) _ ((compare_any _ _ _).mono (fun e w' h => h)))))))
  refine wpQuiet_nil ?_
  intro s
  go_wp2
  go_ret
  exact ⟨rfl, step_ HW.out (Nat.le_refl _) s.hb⟩
set_option maxRecDepth 100000 in
set_option maxHeartbeats 2000000 in
theorem cmpBy_69 (p q : Pas) (kf : PK → Int) (b f : Nat) (w : World) (hf : w.cell? ⟨f, 0, none⟩ = some (.func (.func 69) #[] #[.pointer (some ⟨b, 0, none⟩)]))
    (hp : ∀ s : After w, Calls Try.prog 69 #[p.val, .pointer (some ⟨b, 0, none⟩)] s.w' fun e w' => e = .returned (.int .i64 (kf p.k)) ∧ Below s.w'.heap.size s.w' w')
    (hq : ∀ s : After w, Calls Try.prog 69 #[q.val, .pointer (some ⟨b, 0, none⟩)] s.w' fun e w' => e = .returned (.int .i64 (kf q.k)) ∧ Below s.w'.heap.size s.w' w') :
    Calls Try.prog 87 #[p.val, q.val, .pointer (some ⟨f, 0, none⟩)] w fun e w' => e = .returned (.int .i64 (cmpI (kf p.k) (kf q.k))) ∧ Below w.heap.size w w' := by
  obtain ⟨⟨r, sp⟩, A, n, c⟩ := p
  obtain ⟨⟨r', sp'⟩, A', n', c'⟩ := q
  have hlt := block_lt_of_cell hf
  simp only at hlt
  simp only [Pas.val, Pas.lst] at hp hq
  obtain ⟨t1, ht1⟩ : ∃ t1, t1 = kf ⟨r, sp⟩ := ⟨_, rfl⟩
  obtain ⟨t2, ht2⟩ : ∃ t2, t2 = kf ⟨r', sp'⟩ := ⟨_, rfl⟩
  show Calls Try.prog 87 #[.agg #[.int .i64 r, .slice A n c], .agg #[.int .i64 r', .slice A' n' c'], .pointer (some ⟨f, 0, none⟩)] w fun e w' => e = .returned (.int .i64 (cmpI (kf ⟨r, sp⟩) (kf ⟨r', sp'⟩))) ∧ Below w.heap.size w w'
  rw [← ht1, ← ht2]
  rw [← ht1] at hp
  rw [← ht2] at hq
  clear ht1 ht2
  have hW : Below w.heap.size w ((w.alloc (.cells #[.int .i64 r, .slice A n c] 49)).alloc (.cells #[.int .i64 r', .slice A' n' c'] 49)) := below_alloc (below_alloc (Below.refl _ _) _) _
  have hf2 : ∀ s : After ((w.alloc (.cells #[.int .i64 r, .slice A n c] 49)).alloc (.cells #[.int .i64 r', .slice A' n' c'] 49)), s.w'.cell? ⟨f, 0, none⟩ = some (.func (.func 69) #[] #[.pointer (some ⟨b, 0, none⟩)]) := fun s => After.keep hf ⟨s.w', step_ hW (Nat.le_refl _) s.hb⟩
  have hr1 := rangeAt_below (Pas.rangeNew w ⟨⟨r, sp⟩, A, n, c⟩ 49) (below_alloc (Below.refl _ _) (.cells #[.int .i64 r', .slice A' n' c'] 49))
  have hr2 := Pas.rangeNew (w.alloc (.cells #[.int .i64 r, .slice A n c] 49)) ⟨⟨r', sp'⟩, A', n', c'⟩ 49
  have hsz : (w.alloc (.cells #[.int .i64 r, .slice A n c] 49)).heap.size = w.heap.size + 1 := by simp
  rw [hsz] at hr2
  have HP := Lib.hid (show ∀ s : After ((w.alloc (.cells #[.int .i64 r, .slice A n c] 49)).alloc (.cells #[.int .i64 r', .slice A' n' c'] 49)), Calls Try.prog 69 #[.agg #[.int .i64 r, .slice A n c], .pointer (some ⟨b, 0, none⟩)] s.w' fun e w' => e = .returned (.int .i64 t1) ∧ Below s.w'.heap.size s.w' w' from fun s => hp ⟨s.w', step_ hW (Nat.le_refl _) s.hb⟩)
  have HQ := Lib.hid (show ∀ s : After ((w.alloc (.cells #[.int .i64 r, .slice A n c] 49)).alloc (.cells #[.int .i64 r', .slice A' n' c'] 49)), Calls Try.prog 69 #[.agg #[.int .i64 r', .slice A' n' c'], .pointer (some ⟨b, 0, none⟩)] s.w' fun e w' => e = .returned (.int .i64 t2) ∧ Below s.w'.heap.size s.w' w' from fun s => hq ⟨s.w', step_ hW (Nat.le_refl _) s.hb⟩)
  have HW := Lib.hid hW
  clear hp hq hsz hW hf
  go_enter Try.func87, Try.ntmps87
  go_wp2_with fail
  refine region_after (by kernel_rfl) (by kernel_rfl) ?_
  repeat (any_goals (first | go_big_quiet_step ((first | (go_at_call 69; first | (with_reducible exact Calls.after (v := .int .i64 t1) _ (HP.out _)) | (with_reducible exact Calls.after (v := .int .i64 t2) _ (HQ.out _))) | (go_at_call 88; exact Calls.after_same (v := .int .i64 (cmpI t1 t2)) _ ((compare_any _ _ _).mono (fun e w' h => h))))) | (refine Pas.qloadImpl rfl _ rfl w.heap.size 0 rfl ⟨⟨r, sp⟩, A, n, c⟩ hr1 ?_) | (refine Pas.qloadImpl rfl _ rfl (w.heap.size + 1) 0 rfl ⟨⟨r', sp'⟩, A', n', c'⟩ hr2 ?_) | quiet_step ((first | (go_at_call 69; first | (with_reducible exact Calls.after (v := .int .i64 t1) _ (HP.out _)) | (with_reducible exact Calls.after (v := .int .i64 t2) _ (HQ.out _))) | (go_at_call 88; exact Calls.after_same (v := .int .i64 (cmpI t1 t2)) _ ((compare_any _ _ _).mono (fun e w' h => h)))))))
  refine wpQuiet_nil ?_
  intro s
  go_wp2
  go_ret
  exact ⟨rfl, step_ HW.out (Nat.le_refl _) s.hb⟩
theorem good_at {xs : List Pas} (h : goodPs (xs.map Pas.k) = true) : ∀ p ∈ xs, ∀ i, i < p.k.splits.length → 1 ≤ atP p.k i ∧ atP p.k i ≤ 36000 := by
  intro p hp i hi
  obtain ⟨k, hk, rfl⟩ := List.getElem_of_mem hp
  have h1 := ((goodPs_iff.1 h).1 k (by simpa using hk)).1.2.2 i (by simpa using hi)
  simp only [List.getElem_map] at h1
  unfold atP
  rw [List.getD_eq_getElem?_getD, List.getElem?_eq_getElem hi]
  exact h1.1
/-- The passings with a split at a place, in ascending order of what is compared. -/
def ltK (kf : PK → Int) (a b : Pas) : Bool := decide (kf a.k < kf b.k)
def ordK (kf : PK → Int) (P : Nat) (xs : List Pas) : List Pas := putAll (ltK kf) (xs.filter fun x => wasAt P x.k)
theorem ltC_key (kf : PK → Int) : ltC (fun a b : Pas => cmpI (kf a.k) (kf b.k)) = ltK kf := by
  funext a b
  unfold ltC ltK cmpI
  by_cases h : kf a.k < kf b.k
  · simp [h]
  · simp only [h, if_false]
    by_cases h2 : kf b.k < kf a.k <;> simp [h2]
theorem ordK_perm (kf : PK → Int) (P : Nat) (xs : List Pas) : (ordK kf P xs).Perm (xs.filter fun x => wasAt P x.k) := putAll_perm _ _
theorem ordK_mem {kf : PK → Int} {P : Nat} {xs : List Pas} : ∀ x ∈ ordK kf P xs, x ∈ xs ∧ P < x.k.splits.length := by
  intro x hx
  have := (ordK_perm kf P xs).mem_iff.1 hx
  rw [List.mem_filter] at this
  exact ⟨this.1, by simpa [wasAt] using this.2⟩

set_option maxHeartbeats 2000000 in
theorem orderAt_80 (kf : PK → Int) (xs : List Pas) (P : Nat) (hkf : kf = keyS P) (b : Nat) (v : Value) (w : World) (h : PasS w v xs) (hc : w.cell? ⟨b, 0, none⟩ = some (.int .i64 P)) (hl : xs.length ≤ 10) (hgd : ∀ p ∈ xs, ∀ i, i < p.k.splits.length → 1 ≤ atP p.k i ∧ atP p.k i ≤ 36000) (h3 : P ≤ 3) :
    Calls Try.prog 68 #[v, .int .i64 P, .func (.func 80) #[] #[.pointer (some ⟨b, 0, none⟩)]] w fun e w' => ∃ o, e = .returned o ∧ Row w.heap.size 49 2 w' o ((ordK kf P xs).map Pas.lst) ∧ Below w.heap.size w w' := by
  have hW : Below w.heap.size w ((w.alloc (.cells #[.int .i64 P] 3)).alloc (.cells #[.func (.func 80) #[] #[.pointer (some ⟨b, 0, none⟩)]] 66)) := below_alloc (below_alloc (Below.refl _ _) _) _
  have hc4 : ((w.alloc (.cells #[.int .i64 P] 3)).alloc (.cells #[.func (.func 80) #[] #[.pointer (some ⟨b, 0, none⟩)]] 66)).cell? ⟨w.heap.size, 0, none⟩ = some (.int .i64 P) :=
    After.keep (rangeAt_new w [.int .i64 P] 3 0 _ rfl) ⟨_, below_alloc (Below.refl _ _) _⟩
  have hc5 : ((w.alloc (.cells #[.int .i64 P] 3)).alloc (.cells #[.func (.func 80) #[] #[.pointer (some ⟨b, 0, none⟩)]] 66)).cell? ⟨w.heap.size + 1, 0, none⟩ = some (.func (.func 80) #[] #[.pointer (some ⟨b, 0, none⟩)]) := by
    simp
  have hlt := block_lt_of_cell hc
  have hlt4 := block_lt_of_cell hc4
  have hlt5 := block_lt_of_cell hc5
  simp only at hlt hlt4 hlt5
  go_enter Try.func68, Try.ntmps68
  go_wp2_with fail
  generalize (w.alloc (.cells #[.int .i64 P] 3)).alloc (.cells #[.func (.func 80) #[] #[.pointer (some ⟨b, 0, none⟩)]] 66) = W at hW hc4 hc5 hlt4 hlt5 ⊢
  refine (clone_Pas xs v W (h.1.below (Flat.keeps _) hW) (by omega)).mono ?_
  rintro e w1 ⟨o1, rfl, row1, hb1⟩
  have hB1 := step_ hW (Nat.le_refl _) hb1
  have hk4 := After.keep hc4 ⟨w1, hb1⟩
  have hk5 := After.keep hc5 ⟨w1, hb1⟩
  have hkb := After.keep hc ⟨w1, hB1⟩
  simp only at hk4 hk5 hkb
  have hne : ∀ q, q < W.heap.size → o1.ownBlock ≠ some q := fun q hq e => by have := (row1.lt _ e).1; omega
  have hWb : ∀ W', w1.grownBy W' o1.ownBlock → Below w.heap.size w W' := fun W' hg => hB1.grown hg hB1.size (fun q hq => Nat.le_trans hW.size (row1.lt q hq).1)
  go_wp2_with fail
  refine (deleteFunc_85 _ (fun s => !wasAt P s.k) xs o1 W.heap.size w1 row1 (by omega) (fun W' x hx hg => short_any x P w.heap.size W' (hg.cell_far_ hk4 (hne _ hlt4)) ((h.2 x hx).below (hWb W' hg)))).mono ?_
  rintro e w2 ⟨o2, rfl, row2, hg2, ho2⟩
  have hB2 := hWb w2 hg2
  have hk5 := hg2.cell_far_ hk5 (hne _ hlt5)
  have hkb := hg2.cell_far_ hkb (hne _ (Nat.lt_of_lt_of_le hlt hW.size))
  have HO := Lib.hid (show (xs.filter fun x => !(!wasAt P x.k)) = xs.filter fun x => wasAt P x.k by simp)
  rw [HO.out] at row2
  have hne2 : ∀ q, q < W.heap.size → o2.ownBlock ≠ some q := fun q hq e => by have := (row2.lt _ e).1; omega
  have hWb2 : ∀ W', w2.grownBy W' o2.ownBlock → Below w.heap.size w W' := fun W' hg => hB2.grown hg hB2.size (fun q hq => Nat.le_trans hW.size (row2.lt q hq).1)
  go_wp2_with fail
  refine (sortStable_87 _ (fun a b => cmpI (kf a.k) (kf b.k)) W.heap.size o2 (xs.filter fun x => wasAt P x.k) w2 row2 (by have := List.length_filter_le (fun x => wasAt P x.k) xs; omega) (fun W' x y hx hy hg => by
    have hm : ∀ z, z ∈ (xs.filter fun x => wasAt P x.k) → z ∈ xs ∧ P < z.k.splits.length := fun z hz => by
      rw [List.mem_filter] at hz
      exact ⟨hz.1, by simpa [wasAt] using hz.2⟩
    have hx := hm x hx
    have hy := hm y hy
    have hkb' := hg.cell_far_ hkb (hne2 _ (Nat.lt_of_lt_of_le hlt hW.size))
    have hkey : ∀ z, z ∈ xs ∧ P < z.k.splits.length → ∀ s : After W', Calls Try.prog 80 #[z.val, .pointer (some ⟨b, 0, none⟩)] s.w' fun e w' => e = .returned (.int .i64 (kf z.k)) ∧ Below s.w'.heap.size s.w' w' := fun z hz s => by
      rw [hkf]
      exact key_80 z P b s.w' (After.keep hkb' s) ((h.2 z hz.1).below (step_ (hWb2 W' hg) (Nat.le_refl _) s.hb)) hz.2 (hgd z hz.1) h3
    exact cmpBy_80 x y kf b (w.heap.size + 1) W' (hg.cell_far_ hk5 (hne2 _ hlt5)) (hkey x hx) (hkey y hy))).mono ?_
  rintro e w3 ⟨rfl, row3, hg3⟩
  rw [ltC_key] at row3
  go_wp2
  go_ret
  exact ⟨_, rfl, row3.mono hW.size, hWb2 w3 hg3⟩
set_option maxHeartbeats 2000000 in
theorem orderAt_69 (kf : PK → Int) (xs : List Pas) (P : Nat) (hkf : kf = keyL P) (b : Nat) (v : Value) (w : World) (h : PasS w v xs) (hc : w.cell? ⟨b, 0, none⟩ = some (.int .i64 P)) (hl : xs.length ≤ 10) (hgd : ∀ p ∈ xs, ∀ i, i < p.k.splits.length → 1 ≤ atP p.k i ∧ atP p.k i ≤ 36000) (h3 : P ≤ 3) :
    Calls Try.prog 68 #[v, .int .i64 P, .func (.func 69) #[] #[.pointer (some ⟨b, 0, none⟩)]] w fun e w' => ∃ o, e = .returned o ∧ Row w.heap.size 49 2 w' o ((ordK kf P xs).map Pas.lst) ∧ Below w.heap.size w w' := by
  have hW : Below w.heap.size w ((w.alloc (.cells #[.int .i64 P] 3)).alloc (.cells #[.func (.func 69) #[] #[.pointer (some ⟨b, 0, none⟩)]] 66)) := below_alloc (below_alloc (Below.refl _ _) _) _
  have hc4 : ((w.alloc (.cells #[.int .i64 P] 3)).alloc (.cells #[.func (.func 69) #[] #[.pointer (some ⟨b, 0, none⟩)]] 66)).cell? ⟨w.heap.size, 0, none⟩ = some (.int .i64 P) :=
    After.keep (rangeAt_new w [.int .i64 P] 3 0 _ rfl) ⟨_, below_alloc (Below.refl _ _) _⟩
  have hc5 : ((w.alloc (.cells #[.int .i64 P] 3)).alloc (.cells #[.func (.func 69) #[] #[.pointer (some ⟨b, 0, none⟩)]] 66)).cell? ⟨w.heap.size + 1, 0, none⟩ = some (.func (.func 69) #[] #[.pointer (some ⟨b, 0, none⟩)]) := by
    simp
  have hlt := block_lt_of_cell hc
  have hlt4 := block_lt_of_cell hc4
  have hlt5 := block_lt_of_cell hc5
  simp only at hlt hlt4 hlt5
  go_enter Try.func68, Try.ntmps68
  go_wp2_with fail
  generalize (w.alloc (.cells #[.int .i64 P] 3)).alloc (.cells #[.func (.func 69) #[] #[.pointer (some ⟨b, 0, none⟩)]] 66) = W at hW hc4 hc5 hlt4 hlt5 ⊢
  refine (clone_Pas xs v W (h.1.below (Flat.keeps _) hW) (by omega)).mono ?_
  rintro e w1 ⟨o1, rfl, row1, hb1⟩
  have hB1 := step_ hW (Nat.le_refl _) hb1
  have hk4 := After.keep hc4 ⟨w1, hb1⟩
  have hk5 := After.keep hc5 ⟨w1, hb1⟩
  have hkb := After.keep hc ⟨w1, hB1⟩
  simp only at hk4 hk5 hkb
  have hne : ∀ q, q < W.heap.size → o1.ownBlock ≠ some q := fun q hq e => by have := (row1.lt _ e).1; omega
  have hWb : ∀ W', w1.grownBy W' o1.ownBlock → Below w.heap.size w W' := fun W' hg => hB1.grown hg hB1.size (fun q hq => Nat.le_trans hW.size (row1.lt q hq).1)
  go_wp2_with fail
  refine (deleteFunc_85 _ (fun s => !wasAt P s.k) xs o1 W.heap.size w1 row1 (by omega) (fun W' x hx hg => short_any x P w.heap.size W' (hg.cell_far_ hk4 (hne _ hlt4)) ((h.2 x hx).below (hWb W' hg)))).mono ?_
  rintro e w2 ⟨o2, rfl, row2, hg2, ho2⟩
  have hB2 := hWb w2 hg2
  have hk5 := hg2.cell_far_ hk5 (hne _ hlt5)
  have hkb := hg2.cell_far_ hkb (hne _ (Nat.lt_of_lt_of_le hlt hW.size))
  have HO := Lib.hid (show (xs.filter fun x => !(!wasAt P x.k)) = xs.filter fun x => wasAt P x.k by simp)
  rw [HO.out] at row2
  have hne2 : ∀ q, q < W.heap.size → o2.ownBlock ≠ some q := fun q hq e => by have := (row2.lt _ e).1; omega
  have hWb2 : ∀ W', w2.grownBy W' o2.ownBlock → Below w.heap.size w W' := fun W' hg => hB2.grown hg hB2.size (fun q hq => Nat.le_trans hW.size (row2.lt q hq).1)
  go_wp2_with fail
  refine (sortStable_87 _ (fun a b => cmpI (kf a.k) (kf b.k)) W.heap.size o2 (xs.filter fun x => wasAt P x.k) w2 row2 (by have := List.length_filter_le (fun x => wasAt P x.k) xs; omega) (fun W' x y hx hy hg => by
    have hm : ∀ z, z ∈ (xs.filter fun x => wasAt P x.k) → z ∈ xs ∧ P < z.k.splits.length := fun z hz => by
      rw [List.mem_filter] at hz
      exact ⟨hz.1, by simpa [wasAt] using hz.2⟩
    have hx := hm x hx
    have hy := hm y hy
    have hkb' := hg.cell_far_ hkb (hne2 _ (Nat.lt_of_lt_of_le hlt hW.size))
    have hkey : ∀ z, z ∈ xs ∧ P < z.k.splits.length → ∀ s : After W', Calls Try.prog 69 #[z.val, .pointer (some ⟨b, 0, none⟩)] s.w' fun e w' => e = .returned (.int .i64 (kf z.k)) ∧ Below s.w'.heap.size s.w' w' := fun z hz s => by
      rw [hkf]
      exact key_69 z P b s.w' (After.keep hkb' s) ((h.2 z hz.1).below (step_ (hWb2 W' hg) (Nat.le_refl _) s.hb)) hz.2 (hgd z hz.1) h3
    exact cmpBy_69 x y kf b (w.heap.size + 1) W' (hg.cell_far_ hk5 (hne2 _ hlt5)) (hkey x hx) (hkey y hy))).mono ?_
  rintro e w3 ⟨rfl, row3, hg3⟩
  rw [ltC_key] at row3
  go_wp2
  go_ret
  exact ⟨_, rfl, row3.mono hW.size, hWb2 w3 hg3⟩
end Go.Proofs.Ytbeonigmcbipeaa
