/- What FnRounds asks of tables, of seeded heats, of photo finishes and ranks: plain, and in memory. No condition. -/
import Derived.Test.YtabgmbmaakglkaaIL
import Derived.Test.YtabgmbmaakglkaaByte
import Derived.Test.YtabgmbmaakglkaaCur
import Derived.Test.YtabgmbmaakglkaaHtQ
import Derived.Test.YtabgmbmaakglkaaGpQ
import Derived.Test.YtabgmbmaakglkaaHtN
import Derived.Test.YtabgmbmaakglkaaHtF
import Derived.Test.YtabgmbmaakglkaaHtV
namespace Go.Proofs.Ytabgmbmaakglkaa
open Go Go.RowKit

/-- Two inner slices of a table are apart. -/
theorem ILR.apart {base : Nat} {w : World} {v : Value} {zs : List IL} (h : ILR base w v zs) {i j : Nat} (hi : i < zs.length) (hj : j < zs.length) (hne : i ≠ j) : Dis zs[i].sv zs[j].sv := by
  have hp := List.pairwise_iff_getElem.1 h.2.2
  rcases Nat.lt_or_gt_of_ne hne with hlt | hlt
  · exact hp i j hi hj hlt
  · exact (hp j i hj hi hlt).symm
/-- An inner slice with more, stored where it stood. -/
theorem ILR.put {base : Nat} {w w2 w3 : World} {g n cap : Nat} {zs : List IL} (h : ILR base w (.slice (some ⟨g, 0, none⟩) n cap) zs) (hb : Below w.heap.size w w2) {k : Nat} (hk : k < zs.length) {z : IL}
    (hz : Row base 3 1 w3 z.sv (z.k.map ints)) (hg : w2.grownBy w3 zs[k].sv.ownBlock) (hat : z.sv.ownBlock = zs[k].sv.ownBlock ∨ z.sv.ownBlock = some w2.heap.size) :
    ILR base (w3.setCell ⟨g, k, none⟩ z.sv) (.slice (some ⟨g, 0, none⟩) n cap) (zs.set k z) := by
  obtain ⟨hkr, hkd⟩ := h.2.1 _ (List.getElem_mem hk)
  have hrow := (h.1.below hb).kept hg hkd.symm.or
  have hst := (hrow.stored (k := k) (j := 0) (by simpa using hk) (by omega) z.sv).1
  have hsz := hb.size
  have hzd : Dis z.sv (.slice (some ⟨g, 0, none⟩) n cap) := (hkd.symm.grown hat (fun q hq => by have := (h.1.lt q hq).2; omega)).symm
  have old : ∀ (j : Nat) (hj : j < zs.length), j ≠ k → Row base 3 1 (w3.setCell ⟨g, k, none⟩ z.sv) zs[j].sv (zs[j].k.map ints) ∧ Dis zs[j].sv (.slice (some ⟨g, 0, none⟩) n cap) ∧ Dis zs[j].sv z.sv := fun j hj hne => by
    obtain ⟨h1, h2⟩ := h.2.1 _ (List.getElem_mem hj)
    have h3 := h.apart hj hk hne
    exact ⟨((h1.below hb).kept hg h3.or).kept grown_setCell h2.or, h2, h3.grown hat (fun q hq => by have := (h1.lt q hq).2; omega)⟩
  refine ⟨?_, ?_, ?_⟩
  · rw [Nat.mul_one, Nat.add_zero] at hst
    rw [List.map_set]
    simpa [IL.lst] using hst
  · intro y hy
    obtain ⟨j, hj, rfl⟩ := List.getElem_of_mem hy
    rw [List.length_set] at hj
    rw [List.getElem_set]
    split
    · exact ⟨hz.kept grown_setCell hzd.or, hzd⟩
    · rename_i hne
      obtain ⟨h1, h2, _⟩ := old j hj (fun e => hne e.symm)
      exact ⟨h1, h2⟩
  · rw [List.pairwise_iff_getElem]
    intro i j hi hj hij
    rw [List.length_set] at hi hj
    rw [List.getElem_set, List.getElem_set]
    split
    · rename_i e
      split
      · omega
      · rename_i hne
        exact (old j hj (fun e => hne e.symm)).2.2.symm
    · rename_i hne
      split
      · exact (old i hi (fun e => hne e.symm)).2.2
      · exact h.apart hi hj (by omega)
set_option maxHeartbeats 1000000 in
theorem rTable_refl (ps qs : List IL) (v v' : Value) (w : World) (h : ILS w v ps) (h' : ILS w v' qs) (hkk : ps.map IL.k = qs.map IL.k) :
    Calls Try.prog 46 #[v, v'] w fun e w' => e = .returned (.bool true) ∧ Below w.heap.size w w' := by
  have hl : ps.length = qs.length := by have := congrArg List.length hkk; simpa using this
  have HKE := Lib.hid (show ∀ k (h1 : k < ps.length) (h2 : k < qs.length), ps[k].k = qs[k].k by
    intro k h1 h2
    have : (ps.map IL.k)[k]? = (qs.map IL.k)[k]? := by rw [hkk]
    simpa [h1, h2] using this)
  have HI := Lib.hid h.2
  have HI' := Lib.hid h'.2
  obtain ⟨A, c, rfl, hc, hm, hk⟩ := h.1.open_
  obtain ⟨A', c', rfl, hc', hm', hk'⟩ := h'.1.open_
  obtain ⟨n, hn⟩ : ∃ n, qs.length = n := ⟨_, rfl⟩
  have HN := Lib.hid hn
  have hpn : ps.length = n := by rw [hl, hn]
  rw [hn] at hc'
  rw [hpn] at hc
  clear h h' hkk hl
  rw [hn, hpn]
  have HP := Lib.hid hpn
  clear hn hpn
  go_enter Try.func46, Try.ntmps46
  go_wp2
  go_loopw [5] (fun i wr => ∃ k : Nat, k ≤ n ∧ i = .int .i64 k ∧ Below w.heap.size w wr)
    (fun i _ => n - (intOf i).toNat)
  case atStart => exact ⟨0, Nat.zero_le _, rfl, Below.refl _ _⟩
  case round =>
    obtain ⟨k, hkl, rfl, hb⟩ := hrel
    by_cases hlt : k < n
    · have hlp : k < ps.length := by rw [HP.out]; exact hlt
      have hlq : k < qs.length := by rw [HN.out]; exact hlt
      obtain ⟨b, off, rfl, hat⟩ := flat_at hk (by omega)
      obtain ⟨b', off', rfl, hat'⟩ := flat_at hk' (by omega)
      have hr : wr.cell? ⟨b, off + k, none⟩ = some ps[k].sv := by have := (rangeAt_below (hat k hlp) hb) 0 _ rfl; simpa using this
      have hr' : wr.cell? ⟨b', off' + k, none⟩ = some qs[k].sv := by have := (rangeAt_below (hat' k hlq) hb) 0 _ rfl; simpa using this
      have hd := After.keep hr
      have hd' := After.keep hr'
      have HC := Lib.hid (fun (s : After wr) => rInts_refl ps[k].k ps[k].sv qs[k].sv s.w' (((HI.out _ (List.getElem_mem hlp)).below (Flat.keeps _) (step_ hb (Nat.le_refl _) s.hb))) (by rw [HKE.out k hlp hlq]; exact (HI'.out _ (List.getElem_mem hlq)).below (Flat.keeps _) (step_ hb (Nat.le_refl _) s.hb)))
      generalize ps[k].sv = pv at *
      generalize qs[k].sv = qv at *
      clear hat hat' hk hk' hr hr'
      go_wp2
      refine region_after (by kernel_rfl) (by kernel_rfl) ?_
      repeat (any_goals (first | go_big_quiet_step (((go_at_call 36; exact Calls.after (v := .bool true) _ (HC.out _))))  | quiet_step (((go_at_call 36; exact Calls.after (v := .bool true) _ (HC.out _)))) | (refine wpQuiet_step (fun K hK => ?_); go_simp; split <;> (refine hK _ ?_; clear hK K))))
      all_goals (refine wpQuiet_nil ?_; intro s)
      go_wp2
      go_roundw
      case rel => exact ⟨k + 1, by omega, by go_num, step_ hb (Nat.le_refl _) s.hb⟩
      case measure => simp [intOf]; omega
    · go_wp2
      go_ret
      exact ⟨rfl, hb⟩
end Go.Proofs.Ytabgmbmaakglkaa
namespace Go.Proofs.Ytabgmbmaakglkaa

/-- The heat of runner i among H: there and back. -/
def snake (H i : Nat) : Nat := if i / H % 2 = 1 then H - 1 - i % H else i % H
theorem snake_lt {H : Nat} (h : 0 < H) (i : Nat) : snake H i < H := by
  have := Nat.mod_lt i h
  unfold snake; split <;> omega
theorem snake_spec : ∀ H, H < 5 → 0 < H → ∀ i, i < 25 → snake H i = if H ≤ i % (2 * H) then 2 * H - 1 - i % (2 * H) else i % (2 * H) := by decide
/-- The heats, i runners on. -/
def seedTo (H : Nat) (rs : List Int) : Nat → List (List Int)
  | 0 => List.replicate H []
  | i + 1 => (seedTo H rs i).modify (snake H i) (· ++ [rs.getD i 0])
def lenTo (H : Nat) : Nat → List Nat
  | 0 => List.replicate H 0
  | i + 1 => (lenTo H i).modify (snake H i) (· + 1)
theorem seedTo_len (H : Nat) (rs : List Int) : ∀ i, (seedTo H rs i).length = H
  | 0 => by simp [seedTo]
  | i + 1 => by simp [seedTo, seedTo_len H rs i]
theorem map_modify {α β : Type} (f : α → β) (g : α → α) (g' : β → β) (h : ∀ x, f (g x) = g' (f x)) : ∀ (l : List α) (k : Nat), (l.modify k g).map f = (l.map f).modify k g'
  | [], k => by simp
  | a :: l, 0 => by simp [h]
  | a :: l, k + 1 => by simp [map_modify f g g' h l k]
theorem seedTo_lens (H : Nat) (rs : List Int) : ∀ i, (seedTo H rs i).map List.length = lenTo H i
  | 0 => by simp [seedTo, lenTo]
  | i + 1 => by
    rw [seedTo, lenTo, ← seedTo_lens H rs i]
    exact map_modify _ _ _ (fun x => by simp) _ _
def lensB (H n : Nat) : Bool := (!decide (2 * H ≤ n) || (lenTo H n).all fun x => decide (2 ≤ x ∧ x ≤ 6)) && ((!decide (n < 2 * H) || (lenTo H n).any fun x => decide (x < 2)) && (((lenTo H n).all fun x => (lenTo H n).all fun y => decide (x ≤ y + 1)) && (decide ((lenTo H n).sum = n) && (lenTo H n).all fun x => decide (x ≤ 6))))
theorem lensB_ok : ∀ H, H < 5 → 0 < H → ∀ n, n < 25 → n ≤ 6 * H → lensB H n = true := by decide
theorem lens_ok (H : Nat) (h1 : H < 5) (h2 : 0 < H) (n : Nat) (h3 : n < 25) (h4 : n ≤ 6 * H) :
    (2 * H ≤ n → ∀ x ∈ lenTo H n, 2 ≤ x ∧ x ≤ 6) ∧ (n < 2 * H → ∃ x ∈ lenTo H n, x < 2) ∧ (∀ x ∈ lenTo H n, ∀ y ∈ lenTo H n, x ≤ y + 1) ∧ (lenTo H n).sum = n ∧ ∀ x ∈ lenTo H n, x ≤ 6 := by
  have h := lensB_ok H h1 h2 n h3 h4
  simp only [lensB, Bool.and_eq_true, Bool.or_eq_true, Bool.not_eq_true', decide_eq_false_iff_not, List.all_eq_true, List.any_eq_true, decide_eq_true_eq] at h
  obtain ⟨a, b, c, d, e⟩ := h
  exact ⟨fun q => a.resolve_left (fun n => n q), fun q => b.resolve_left (fun n => n q), c, d, e⟩
/-- Whether runners and heats may be seeded. -/
def seedB (rs : List Int) (h : Int) : Bool := inB h 1 4 && (inB rs.length (2 * h) (6 * h) && (rs.all (fun x => inB x 1 999) && !twice rs))
def seedV (rs : List Int) (h : Int) : List (List Int) := if seedB rs h then seedTo h.toNat rs rs.length else []
theorem seedV_no {rs : List Int} {h : Int} (g : seedB rs h = false) : seedV rs h = [] := by simp [seedV, g]
theorem seedV_yes {rs : List Int} {h : Int} (g : seedB rs h = true) : seedV rs h = seedTo h.toNat rs rs.length := by simp [seedV, g]
theorem seedB_parts {rs : List Int} {h : Int} (g : seedB rs h = true) : (1 ≤ h ∧ h ≤ 4) ∧ (2 * h ≤ rs.length ∧ rs.length ≤ 6 * h) := by
  simp only [seedB, Bool.and_eq_true] at g
  exact ⟨inB_iff.1 g.1, inB_iff.1 g.2.1⟩
/-- What FnRounds asks of the seeded heats. -/
theorem seed_facts (rs : List Int) (h : Int) : (∀ x ∈ seedV rs h, ∀ y ∈ seedV rs h, x.length ≤ y.length + 1) ∧ (seedB rs h = true → ((seedV rs h).map List.length).sum = rs.length) ∧ (seedV rs h).length ≤ 4 ∧ ∀ x ∈ seedV rs h, x.length ≤ 6 := by
  cases g : seedB rs h with
  | false => simp [seedV_no g]
  | true =>
    rw [seedV_yes g]
    obtain ⟨⟨h1, h2⟩, h3, h4⟩ := seedB_parts g
    have hl := seedTo_lens h.toNat rs rs.length
    obtain ⟨_, _, l3, l4, l5⟩ := lens_ok h.toNat (by omega) (by omega) rs.length (by omega) (by omega)
    rw [← hl] at l3 l4 l5
    refine ⟨fun x hx y hy => l3 _ (List.mem_map.2 ⟨x, hx, rfl⟩) _ (List.mem_map.2 ⟨y, hy, rfl⟩), fun _ => l4, by rw [seedTo_len]; omega, fun x hx => l5 _ (List.mem_map.2 ⟨x, hx, rfl⟩)⟩
end Go.Proofs.Ytabgmbmaakglkaa
namespace Go.Proofs.Ytabgmbmaakglkaa
open Go Go.RowKit

section
variable {P : Program} {t e : TypeId} {zv : Value} {z : List Value} {sz bytes : Nat}
/-- append(s, xs...) as a step of a region that draws, the row's base any. -/
theorem Ty.stepAppendR (T : Ty P t e zv z sz bytes) {w : World} {ops : Array Oper} {o : Oper} {a : Act} {K : Act → World → Prop} {Q : Exit → Act → World → Prop} {E : Prop} (hgd : o.guard = none) (s x : Operand)
    (ho : o.op = .call { callee := .builtin .append, args := #[s, x], argTypes := #[t, t] })
    (base : Nat) (v : Value) (ys : List (List Value)) (hs : a.eval s = v) (hown : Row base e sz w v ys) (A : Option Addr) (m c : Nat) (news : List (List Value)) (hx : a.eval x = .slice A m c) (hsrc : Src w sz A m news)
    (hn : ys.length + m ≤ 2147483648) (hb : base ≤ w.heap.size)
    (h : ∀ v' w', Row base e sz w' v' (ys ++ news) → w.grownBy w' v.ownBlock → (v'.ownBlock = v.ownBlock ∨ v'.ownBlock = some w.heap.size) → K (a.put o.dst v') w') :
    if Region.wanted o (yielded ops a.tmps) = true then Oper.wp P o a w K Q else E := by
  have hw : Region.wanted o (yielded ops a.tmps) = true := by simp [Region.wanted, hgd]
  rw [if_pos hw]
  obtain ⟨v', w', hrun, h2, h3, h4⟩ := append_run T hown o.type A m c news hsrc hn hb
  unfold Oper.wp execOp
  simp only [ho, resolve, invoke, builtin, Sem.run_bind, Sem.run_pure, Result.andThen_ok, List.map_toArray, List.map_cons, List.map_nil, hs, hx, hrun]
  exact h v' w' h2 h3 h4
end

theorem ILR.made {base n : Nat} {w : World} {v : Value} (h : Row base 22 1 w v (List.replicate n [.slice none 0 0])) : ILR base w v (List.replicate n ⟨[], none, 0, 0⟩) := by
  refine ⟨by rw [List.map_replicate]; exact h, fun z hz => ?_, ?_⟩
  · rw [(List.mem_replicate.1 hz).2]
    exact ⟨Row.nil _ _ _ _, Dis.nil _⟩
  · rw [List.pairwise_iff_getElem]
    intro i j hi hj _
    rw [List.getElem_replicate, List.getElem_replicate]
    exact Dis.nil _
theorem seedTo_made (H : Nat) (xs : List Int) : (List.replicate H (⟨[], none, 0, 0⟩ : IL)).map IL.k = seedTo H xs 0 := by simp [seedTo]
theorem seedTo_put {H i : Nat} {xs : List Int} {zs : List IL} (hm : zs.map IL.k = seedTo H xs i) (hi : i < xs.length) (hs : snake H i < zs.length) {z : IL} (hz : z.k = zs[snake H i].k ++ [xs[i]]) :
    (zs.set (snake H i) z).map IL.k = seedTo H xs (i + 1) := by
  rw [List.map_set, seedTo, ← hm]
  apply List.ext_getElem
  · simp
  · intro j h1 h2
    rw [List.getElem_set, List.getElem_modify]
    split
    · rename_i e
      subst e
      simp [hz, hi]
    · rfl
theorem seedB_q {rs : List Int} {h : Int} (g : inB h 1 4 = false) : seedB rs h = false := by simp [seedB, g]
theorem seedB_len {rs : List Int} {h : Int} (g : inB rs.length (2 * h) (6 * h) = false) : seedB rs h = false := by simp [seedB, g]
theorem seedB_num {rs : List Int} {h : Int} {i : Nat} (hi : i < rs.length) (g : inB rs[i] 1 999 = false) : seedB rs h = false := by
  have : rs.all (fun x => inB x 1 999) = false := by
    rw [List.all_eq_false]
    exact ⟨_, List.getElem_mem hi, by simp [g]⟩
  simp [seedB, this]
theorem seedB_twice {rs : List Int} {h : Int} (g : twice rs = true) : seedB rs h = false := by simp [seedB, g]
theorem seedB_again {rs : List Int} {h : Int} {i : Nat} (hi : i < rs.length) (g : (rs.take i).any (fun y => rs[i] == y) = true) : seedB rs h = false := seedB_twice (twice_at hi g)
theorem seedB_yes {rs : List Int} {h : Int} (g1 : inB h 1 4 = true) (g2 : inB rs.length (2 * h) (6 * h) = true) (g3 : ∀ i (hi : i < rs.length), inB rs[i] 1 999 = true ∧ (rs.take i).any (fun y => rs[i] == y) = false) : seedB rs h = true := by
  have h1 : rs.all (fun x => inB x 1 999) = true := by
    rw [List.all_eq_true]
    intro x hx
    obtain ⟨i, hi, rfl⟩ := List.getElem_of_mem hx
    exact (g3 i hi).1
  have h2 : twice rs = false := twice_no fun j hj => (g3 j hj).2
  simp [seedB, g1, g2, h1, h2]
theorem seedB_any {rs : List Int} {h : Int} (g : (rs.any fun n => !inB n 1 999) = true) : seedB rs h = false := by
  obtain ⟨x, hx, hg⟩ := List.any_eq_true.1 g
  have : rs.all (fun x => inB x 1 999) = false := by
    rw [List.all_eq_false]
    exact ⟨x, hx, by simpa using hg⟩
  simp [seedB, this]
theorem seedB_more {rs : List Int} {h : Int} (g : h * 6 < rs.length) : seedB rs h = false := seedB_len (by
  cases e : inB rs.length (2 * h) (6 * h) with
  | false => rfl
  | true => have := inB_iff.1 e; omega)
theorem seedE_yes {xs : List Int} {H : Nat} {zs : List IL} (g1 : inB (H : Int) 1 4 = true) (hn : xs.length ≤ 6 * H) (ht : twice xs = false) (ha : (xs.any fun n => !inB n 1 999) = false) (hm : zs.map IL.k = seedTo H xs xs.length)
    (hall : ∀ j (h : j < zs.length), inB (zs[j].k.length : Int) 2 6 = true) : seedB xs H = true := by
  have hq := inB_iff.1 g1
  obtain ⟨_, l2, _⟩ := lens_ok H (by omega) (by omega) xs.length (by omega) hn
  have h1 : xs.all (fun x => inB x 1 999) = true := by
    rw [List.all_eq_true]
    intro x hx
    have := List.any_eq_false.1 ha x hx
    simpa using this
  have h2 : inB (xs.length : Int) (2 * (H : Int)) (6 * (H : Int)) = true := by
    by_cases hlt : xs.length < 2 * H
    · obtain ⟨x, hx, hx2⟩ := l2 hlt
      rw [← seedTo_lens H xs xs.length, ← hm, List.map_map] at hx
      obtain ⟨z, hz, rfl⟩ := List.mem_map.1 hx
      obtain ⟨j, hj, rfl⟩ := List.getElem_of_mem hz
      have h3 := inB_iff.1 (hall j hj)
      simp only [Function.comp] at hx2
      omega
    · exact inB_iff.2 (by omega)
  simp [seedB, g1, h2, h1, ht]
theorem seedE_no {xs : List Int} {H : Nat} {zs : List IL} (g1 : inB (H : Int) 1 4 = true) (hn : xs.length ≤ 6 * H) (hm : zs.map IL.k = seedTo H xs xs.length) {j : Nat} (hj : j < zs.length) (hb : inB (zs[j].k.length : Int) 2 6 = false) : seedB xs H = false := by
  have hq := inB_iff.1 g1
  obtain ⟨l1, _⟩ := lens_ok H (by omega) (by omega) xs.length (by omega) hn
  refine seedB_len ?_
  cases e : inB (xs.length : Int) (2 * (H : Int)) (6 * (H : Int)) with
  | false => rfl
  | true =>
    have h2 := inB_iff.1 e
    have h3 := l1 (by omega) zs[j].k.length (by rw [← seedTo_lens H xs xs.length, ← hm, List.map_map]; exact List.mem_map.2 ⟨zs[j], List.getElem_mem hj, rfl⟩)
    rw [inB_iff.2 (by omega)] at hb
    exact absurd hb (by simp)
end Go.Proofs.Ytabgmbmaakglkaa
namespace Go.Proofs.Ytabgmbmaakglkaa
open Go Go.RowKit

theorem ordJ (h : HK) : Ord (ltJ h) := ⟨fun x y h => by simp [ltJ] at *; omega, fun x y z h1 h2 => by simp [ltJ] at *; omega⟩
/-- Neighbours of a placing: the gap is told, and above 0. -/
theorem placing_gap {h : HK} (g : goodH h = true) {i : Nat} (hi : i < (plV h).length) (h0 : 0 < i) (h1 : i - 1 < (plV h).length) : gapB h (plV h)[i - 1] (plV h)[i] = true ∧ 0 < gapV h (plV h)[i - 1] (plV h)[i] := by
  have gg := goodH_iff.1 g
  have hl := gg.2.1
  have e := plV_yes g
  have hio : i < (ordI h).length := by rw [e, List.length_map] at hi; exact hi
  have hjo : i - 1 < (ordI h).length := by omega
  have hb : ∀ (j : Nat) (hj : j < (ordI h).length) (hj' : j < (plV h).length), (plV h)[j] = h.runners[(ordI h)[j]]'(ordI_mem.1 (List.getElem_mem hj)).1 := fun j hj hj' => by
    simp only [e, List.getElem_map]
    exact rnAt_eq _
  have ht : ∀ (j : Nat) (hj : j < (ordI h).length) (hj' : j < (plV h).length), tOf h (plV h)[j] = tmAt h (ordI h)[j] ∧ 0 < tmAt h (ordI h)[j] := fun j hj hj' => by
    have hm := ordI_mem.1 (List.getElem_mem hj)
    refine ⟨?_, hm.2⟩
    rw [hb j hj hj', tOf_at gg hm.1 (by omega), tmAt_eq (by omega)]
  obtain ⟨ta, pa⟩ := ht (i - 1) hjo h1
  obtain ⟨tb, pb⟩ := ht i hio hi
  have gq := gapB_yes (a := (plV h)[i - 1]) (b := (plV h)[i]) g (by rw [ta]; omega) (by rw [tb]; omega)
  refine ⟨gq, ?_⟩
  rw [gap_yes gq, ta, tb]
  have hs := List.pairwise_iff_getElem.1 (putAll_ordered (ordJ h) (rawI h)) (i - 1) i hjo hio (by omega)
  have hle : tmAt h (ordI h)[i - 1] ≤ tmAt h (ordI h)[i] := by
    have : ltJ h (ordI h)[i] (ordI h)[i - 1] = false := hs
    simp [ltJ] at this
    exact this
  have hma := ordI_mem.1 (List.getElem_mem hjo)
  have hmb := ordI_mem.1 (List.getElem_mem hio)
  have hne : (ordI h)[i - 1] ≠ (ordI h)[i] := by
    have := ordI_nodup h
    rw [List.nodup_iff_pairwise_ne, List.pairwise_iff_getElem] at this
    exact this (i - 1) i hjo hio (by omega)
  have htne : tmAt h (ordI h)[i - 1] ≠ tmAt h (ordI h)[i] := by
    rcases Nat.lt_or_gt_of_ne hne with hlt | hlt
    · exact good_times gg hma.1 hmb.1 hmb.2 hlt
    · exact fun e => good_times gg hmb.1 hma.1 hma.2 hlt e.symm
  omega

theorem firsts_len (d : Int) : ∀ (l : List Fns) (k : Nat), (∀ i (h : i < l.length), l[i].place = ((k + i : Nat) : Int)) → (l.filter fun f => decide (f.place < d)).length ≤ (d - k).toNat
  | [], k, _ => by simp
  | f :: l, k, h => by
    have ih := firsts_len d l (k + 1) (fun i hi => by have := h (i + 1) (by simpa using hi); simp only [List.getElem_cons_succ] at this; rw [this]; omega)
    have h0 := h 0 (by simp)
    simp only [List.getElem_cons_zero, Nat.add_zero] at h0
    rw [List.filter_cons]
    by_cases hd : f.place < d
    · simp only [hd, decide_true, if_true, List.length_cons]
      omega
    · simp only [hd, decide_false, Bool.false_eq_true, if_false]
      omega
theorem finN_firsts (h : HK) (d : Int) : ((finN h).filter fun f => decide (f.place < d)).length ≤ d.toNat := by
  have := firsts_len d (finN h) 0 (fun i hi => by rw [finN_place hi]; simp)
  simpa using this
theorem allF_firsts (d : Int) : ∀ ks : List HK, ((allF ks).filter fun f => decide (f.place < d)).length ≤ d.toNat * ks.length
  | [] => by simp [allF]
  | k :: ks => by
    have e : allF (k :: ks) = finN k ++ allF ks := by simp [allF]
    rw [e, List.filter_append, List.length_append, List.length_cons, Nat.mul_add]
    have h1 := finN_firsts k d
    have h2 := allF_firsts d ks
    omega
theorem goF_few {ks : List HK} {d l : Int} (h : askG ks d l = true) : (goF ks d l).length ≤ d.toNat * ks.length := by
  unfold goF
  rw [List.length_map, gF_yes h]
  exact allF_firsts d ks
theorem goL_few {ks : List HK} {d l : Int} (h : askG ks d l = true) : ((goL ks d l).length : Int) ≤ l := by
  have hp := (askG_parts h).2.2
  unfold goL
  rw [List.length_map, gL_yes h]
  unfold luckyN
  rw [List.length_take]
  omega
theorem go_nodup (ks : List HK) (d l : Int) : (goF ks d l ++ goL ks d l).Nodup := by
  cases h : askG ks d l with
  | false => simp [goF, goL, gF_no h, gL_no h]
  | true =>
    unfold goF goL
    rw [gF_yes h, gL_yes h, ← List.map_append]
    have hg := goodR_iff.1 (askG_parts h).1
    have h1 := allF_nodup hg.2.1
    have hp : (firstN ks d ++ restN ks d).Perm (allF ks) := List.filter_append_perm (fun f : Fns => decide (f.place < d)) (allF ks)
    have hp2 : (firstN ks d ++ putAll ltTR (restN ks d)).Perm (allF ks) := ((putAll_perm ltTR (restN ks d)).append_left _).trans hp
    have h2 := (hp2.map Fns.runner).symm.nodup h1
    refine List.Nodup.sublist ?_ h2
    refine List.Sublist.map _ ?_
    unfold luckyN
    exact List.Sublist.append_left (List.take_sublist _ _) _
theorem goL_not_first {ks : List HK} {d l : Int} {i : Nat} (hi : i < (goL ks d l).length) : (goF ks d l).any (fun y => (goL ks d l)[i] == y) = false := by
  rw [any_dec, decide_eq_false_iff_not]
  have h := go_nodup ks d l
  rw [List.nodup_iff_pairwise_ne, List.pairwise_append] at h
  exact fun hm => h.2.2 _ hm _ (List.getElem_mem hi) rfl
theorem goL_not_before {ks : List HK} {d l : Int} {i : Nat} (hi : i < (goL ks d l).length) : ((goL ks d l).take i).any (fun y => (goL ks d l)[i] == y) = false := by
  rw [any_dec, decide_eq_false_iff_not]
  have h := go_nodup ks d l
  rw [List.nodup_append] at h
  exact nodup_steps.1 h.2.1 i hi
theorem goL_told (ks : List HK) (d l : Int) : limB ks d l = decide ((0 : Int) < ((goL ks d l).length : Int)) := by
  unfold limB goL
  rw [List.length_map, Bool.eq_iff_iff]
  simp
/-- No lucky one is slower than the limit. -/
theorem limit_ok {ks : List HK} {d l : Int} (ht : limB ks d l = true) {b : Nat} (hb : b < ks.length) {k : Nat} (hk : k < ks[b].runners.length) (hkt : k < ks[b].times.length)
    (hm : (goL ks d l).any (fun y => ks[b].runners[k] == y) = true) : ks[b].times[k] ≤ limV ks d l := by
  have hpos : 0 < (gL ks d l).length := by simpa [limB] using ht
  obtain ⟨n, hn⟩ : ∃ n, (gL ks d l).length = n + 1 := ⟨(gL ks d l).length - 1, by omega⟩
  have hnl : n < (gL ks d l).length := by omega
  have hlv := (lim_yes hn).2 hnl
  have ha : askG ks d l = true := by
    cases h : askG ks d l with
    | true => rfl
    | false => rw [gL_no h] at hpos; simp at hpos
  have hg := goodR_iff.1 (askG_parts ha).1
  rw [any_dec, decide_eq_true_iff] at hm
  obtain ⟨f, hf, hfr⟩ := List.mem_map.1 (show ks[b].runners[k] ∈ (gL ks d l).map Fns.runner from hm)
  obtain ⟨j, hj, hfj⟩ := List.getElem_of_mem hf
  have hsort : (putAll ltTR (restN ks d)).Pairwise fun a b => ltTR b a = false := putAll_ordered ordTR _
  have hle : f.time ≤ (gL ks d l)[n].time := by
    have hsub : (gL ks d l).Pairwise fun a b => ltTR b a = false := by
      rw [gL_yes ha]
      exact hsort.sublist (List.take_sublist _ _)
    rcases Nat.lt_or_ge j n with hjn | hjn
    · have := List.pairwise_iff_getElem.1 hsub j n hj hnl hjn
      rw [hfj] at this
      have h9 := ltTR_no.1 this
      omega
    · have hje : j = n := by omega
      subst hje
      rw [hfj]; omega
  have hfa : f ∈ allF ks := by
    rw [gL_yes ha] at hf
    have h1 := List.mem_of_mem_take hf
    have h2 := (putAll_perm ltTR (restN ks d)).mem_iff.1 h1
    exact (List.mem_filter.1 h2).1
  obtain ⟨h', hh', hfh⟩ := List.mem_flatMap.1 hfa
  obtain ⟨i, hi, h0, htm, hrn, _⟩ := finN_mem hfh
  obtain ⟨a, haa, hae⟩ := List.getElem_of_mem hh'
  have hri : h'.runners[i] = ks[b].runners[k] := by rw [← rnAt_eq hi, ← hrn, hfr]
  have hab : a = b := by
    have hd := (flat_cons_nodup.1 hg.2.1).2
    rw [List.pairwise_iff_getElem] at hd
    rcases Nat.lt_trichotomy a b with hlt | he | hlt
    · exact absurd hri (hd a b haa hb hlt _ (by rw [hae]; exact List.getElem_mem hi) _ (List.getElem_mem hk))
    · exact he
    · exact absurd hri.symm (hd b a hb haa hlt _ (List.getElem_mem hk) _ (by rw [hae]; exact List.getElem_mem hi))
  subst hab
  subst hae
  have hgk := hg.1 _ (List.getElem_mem haa)
  have hik : i = k := by
    have h1 := idxOf_at (good_runners hgk) hi
    have h2 := idxOf_at (good_runners hgk) hk
    rw [hri] at h1
    omega
  subst hik
  rw [hlv, ← tmAt_eq hkt, ← htm]
  exact hle
end Go.Proofs.Ytabgmbmaakglkaa
namespace Go.Proofs.Ytabgmbmaakglkaa
open Go Go.RowKit

theorem nearN_mem {q : Int} {l : List Fns} : ∀ {k : Nat} {x : List Int}, x ∈ nearN q l k → ∃ i, i < k ∧ x ∈ nearAt q l i
  | 0, x, h => by simp [nearN_zero] at h
  | k + 1, x, h => by
    rw [nearN_succ] at h
    rcases List.mem_append.1 h with h | h
    · obtain ⟨i, hi, hx⟩ := nearN_mem h
      exact ⟨i, by omega, hx⟩
    · exact ⟨k, by omega, h⟩
theorem near_heats {q : Int} : ∀ {ks : List HK} {x : List Int}, x ∈ nearN q (allF ks) (allF ks).length → ∃ h ∈ ks, ∃ i, i < (finN h).length ∧ 0 < i ∧ x ∈ nearAt q (finN h) i := by
  intro ks x hx
  obtain ⟨n, hn, hx⟩ := nearN_mem hx
  have key : ∀ k, k ≤ ks.length → n < (allF (ks.take k)).length → ∃ h ∈ ks, ∃ i, i < (finN h).length ∧ 0 < i ∧ x ∈ nearAt q (finN h) i := by
    intro k
    induction k with
    | zero => intro _ h; simp [allF] at h
    | succ k ih =>
      intro hk h
      rw [allF_take (by omega), List.length_append] at h
      by_cases hlt : n < (allF (ks.take k)).length
      · exact ih (by omega) hlt
      · obtain ⟨i, hi⟩ : ∃ i, n = (allF (ks.take k)).length + i := ⟨n - (allF (ks.take k)).length, by omega⟩
        have hil : i < (finN ks[k]).length := by omega
        have hna := nearAt_all (q := q) (show k < ks.length by omega) hil
        rw [← hi] at hna
        rw [hna] at hx
        by_cases h0 : 0 < i
        · rw [if_pos h0] at hx
          exact ⟨ks[k], List.getElem_mem _, i, hil, h0, hx⟩
        · rw [if_neg h0] at hx; simp at hx
  exact key ks.length (Nat.le_refl _) (by rw [List.take_length]; exact hn)
/-- A photo finish is near in some heat. -/
theorem photo_near {ks : List HK} {q : Int} {x : List Int} (hx : x ∈ phV ks q) : ∃ a b, x = [a, b] ∧ ∃ (k : Nat) (hk : k < ks.length), gapB ks[k] a b = true ∧ 0 < gapV ks[k] a b ∧ gapV ks[k] a b ≤ q := by
  cases ha : askP ks q with
  | false => rw [phV_no ha] at hx; simp at hx
  | true =>
    rw [phV_yes ha] at hx
    obtain ⟨h, hh, i, hi, h0, hx⟩ := near_heats hx
    have hgr := goodR_iff.1 (askP_good ha)
    have gg := hgr.1 h hh
    have g := goodH_true gg
    have hl := gg.2.1
    have hi1 : i - 1 < (finN h).length := by omega
    rw [nearAt_get hi hi1] at hx
    split at hx
    · rename_i hq
      simp at hx
      obtain ⟨k, hk, rfl⟩ := List.getElem_of_mem hh
      have hpe := plV_fin g
      have hip : i < (plV ks[k]).length := by rw [hpe, List.length_map]; exact hi
      have hjp : i - 1 < (plV ks[k]).length := by omega
      have hg := placing_gap g hip h0 hjp
      have e1 : (plV ks[k])[i - 1] = (finN ks[k])[i - 1].runner := by simp [hpe]
      have e2 : (plV ks[k])[i] = (finN ks[k])[i].runner := by simp [hpe]
      rw [e1, e2] at hg
      refine ⟨_, _, hx, k, hk, hg.1, hg.2, ?_⟩
      rw [gap_yes hg.1]
      have ht : ∀ j (hj : j < (finN ks[k]).length), tOf ks[k] (finN ks[k])[j].runner = (finN ks[k])[j].time := fun j hj => by
        obtain ⟨m, hm, _, htm, hrn, _⟩ := finN_mem (List.getElem_mem hj)
        rw [hrn, htm, rnAt_eq hm, tOf_at gg hm (by omega), tmAt_eq (by omega)]
      rw [ht i hi, ht (i - 1) hi1]
      exact hq.2
    · simp at hx
/-- The rank of a round has as many as the placings, and the first of each. -/
theorem rank_sum {ks : List HK} (g : goodR ks = true) : (rkV ks).length = (ks.map fun k => (plV k).length).sum := by
  have gg := goodR_iff.1 g
  have key : ∀ l : List HK, (∀ k ∈ l, goodH k = true) → (allF l).length = (l.map fun k => (plV k).length).sum := by
    intro l
    induction l with
    | nil => intro _; rfl
    | cons k l ih =>
      intro h
      have e : allF (k :: l) = finN k ++ allF l := by simp [allF]
      rw [e, List.length_append, ih (fun x hx => h x (List.mem_cons_of_mem _ hx)), List.map_cons, List.sum_cons, plV_fin (h k (by simp)), List.length_map]
  unfold rkV
  rw [List.length_map, rkF_yes g, putAll_len]
  exact key ks fun k hk => goodH_true (gg.1 k hk)
theorem rank_has {ks : List HK} (g : goodR ks = true) {k : Nat} (hk : k < ks.length) {x : Int} (hx : x ∈ plV ks[k]) : x ∈ rkV ks := by
  have gg := goodR_iff.1 g
  rw [plV_fin (goodH_true (gg.1 _ (List.getElem_mem hk)))] at hx
  obtain ⟨f, hf, rfl⟩ := List.mem_map.1 hx
  unfold rkV
  rw [rkF_yes g]
  refine List.mem_map.2 ⟨f, (putAll_perm ltPTR (allF ks)).mem_iff.2 ?_, rfl⟩
  exact List.mem_flatMap.2 ⟨_, List.getElem_mem hk, hf⟩
end Go.Proofs.Ytabgmbmaakglkaa
namespace Go.Proofs.Ytabgmbmaakglkaa
open Go Go.RowKit

/-- How many stand in the first k inner slices. -/
def sumI (zs : List IL) (k : Nat) : Nat := ((zs.take k).map fun z => z.k.length).sum
theorem sumI_zero (zs : List IL) : sumI zs 0 = 0 := rfl
theorem sumI_step (zs : List IL) {k : Nat} (h : k < zs.length) : sumI zs (k + 1) = sumI zs k + zs[k].k.length := by
  unfold sumI
  rw [List.take_succ_eq_append_getElem h, List.map_append, List.sum_append]
  simp
theorem sumI_few {zs : List IL} (h : ∀ i (hi : i < zs.length), zs[i].k.length ≤ 6) : ∀ k, k ≤ zs.length → sumI zs k ≤ 6 * k
  | 0, _ => by rw [sumI_zero]; omega
  | k + 1, hk => by
    have h1 := sumI_few h k (by omega)
    have h2 := h k (by omega)
    rw [sumI_step zs (by omega)]
    omega
/-- What FnRounds asks of the seeded heats, said of the slices that hold them. -/
theorem tbl_facts {zs : List IL} {T : List (List Int)} {ok : Bool} {n : Nat} (hz : zs.map IL.k = T)
    (h : (∀ x ∈ T, ∀ y ∈ T, x.length ≤ y.length + 1) ∧ (ok = true → (T.map List.length).sum = n) ∧ T.length ≤ 4 ∧ ∀ x ∈ T, x.length ≤ 6) :
    (∀ i j (hi : i < zs.length) (hj : j < zs.length), zs[i].k.length ≤ zs[j].k.length + 1) ∧ (ok = true → sumI zs zs.length = n) ∧ zs.length ≤ 4 ∧ ∀ i (hi : i < zs.length), zs[i].k.length ≤ 6 := by
  subst hz
  obtain ⟨h1, h2, h3, h4⟩ := h
  refine ⟨fun i j hi hj => h1 _ (List.mem_map_of_mem (List.getElem_mem hi)) _ (List.mem_map_of_mem (List.getElem_mem hj)), fun g => ?_, by simpa using h3, fun i hi => h4 _ (List.mem_map_of_mem (List.getElem_mem hi))⟩
  have := h2 g
  rw [List.map_map] at this
  unfold sumI
  rw [List.take_length]
  exact this
/-- The cells of a table. -/
theorem ILS.cells {w : World} {A : Option Addr} {n c : Nat} {zs : List IL} (h : ILS w (.slice A n c) zs) : ∃ b off, (0 < zs.length → A = some ⟨b, off, none⟩) ∧
    ∀ W, Below w.heap.size w W → ∀ k (hk : k < zs.length), W.cell? ⟨b, off + k, none⟩ = some (.slice zs[k].a zs[k].k.length zs[k].c) := by
  obtain ⟨A', c', hv, _, _, hat⟩ := h.1.open_
  simp only [Value.slice.injEq] at hv
  obtain ⟨rfl, -, -⟩ := hv
  by_cases h0 : 0 < zs.length
  · obtain ⟨b, off, rfl, hr⟩ := flat_at hat h0
    refine ⟨b, off, fun _ => rfl, fun W hW k hk => ?_⟩
    have h1 := (rangeAt_below (hr k hk) hW) 0 _ rfl
    have hn : zs[k].n = zs[k].k.length := Sl.lenS (h.2 _ (List.getElem_mem hk))
    rw [← hn]
    simpa using h1
  · exact ⟨0, 0, fun h => absurd h h0, fun W hW k hk => absurd hk (by omega)⟩
/-- The cells of a pair. -/
theorem ILS.pair {w : World} {v : Value} {zs : List IL} (h : ILS w v zs) {i : Nat} (hi : i < zs.length) {a b : Int} (hk : zs[i].k = [a, b]) : ∃ g o, zs[i].a = some ⟨g, o, none⟩ ∧
    ∀ W, Below w.heap.size w W → W.cell? ⟨g, o, none⟩ = some (.int .i64 a) ∧ W.cell? ⟨g, o + 1, none⟩ = some (.int .i64 b) := by
  have h1 := h.2 _ (List.getElem_mem hi)
  rw [hk] at h1
  obtain ⟨A', c', hv, _, _, hat⟩ := h1.open_
  simp only [IL.sv, Value.slice.injEq] at hv
  obtain ⟨hA, -, -⟩ := hv
  obtain ⟨g, o, e, hr⟩ := flat_at hat (by simp)
  refine ⟨g, o, by rw [hA, e], fun W hW => ⟨?_, ?_⟩⟩
  · have := int_at (rangeAt_below (hr 0 (by simp)) hW)
    simpa using this
  · have := int_at (rangeAt_below (hr 1 (by simp)) hW)
    simpa using this
/-- What FnRounds asks of the photo finishes. -/
theorem photo_facts {xs : List Ht} {q : Int} {zs : List IL} (hz : zs.map IL.k = phV (xs.map Ht.k) q) : ∀ i (hi : i < zs.length), ∃ a b, zs[i].k = [a, b] ∧ ∃ (k : Nat) (hk : k < xs.length), gapB xs[k].k a b = true ∧ 0 < gapV xs[k].k a b ∧ gapV xs[k].k a b ≤ q := by
  intro i hi
  have hm : zs[i].k ∈ phV (xs.map Ht.k) q := by rw [← hz]; exact List.mem_map_of_mem (List.getElem_mem hi)
  obtain ⟨a, b, h1, k, hk, h2⟩ := photo_near hm
  refine ⟨a, b, h1, k, by simpa using hk, ?_⟩
  simpa using h2
/-- How many stand in the placings of the first k heats. -/
noncomputable def sumP (xs : List Ht) (k : Nat) : Nat := ((xs.take k).map fun p => (plV p.k).length).sum
theorem sumP_zero (xs : List Ht) : sumP xs 0 = 0 := rfl
theorem sumP_step (xs : List Ht) {k : Nat} (h : k < xs.length) : sumP xs (k + 1) = sumP xs k + (plV xs[k].k).length := by
  unfold sumP
  rw [List.take_succ_eq_append_getElem h, List.map_append, List.sum_append]
  simp
theorem sumP_le (xs : List Ht) : ∀ d k, k + d = xs.length → sumP xs k ≤ sumP xs xs.length
  | 0, k, h => by rw [show k = xs.length by omega]; omega
  | d + 1, k, h => by
    have h1 := sumP_le xs d (k + 1) (by omega)
    rw [sumP_step xs (by omega)] at h1
    omega
/-- What FnRounds asks of a round's rank. -/
theorem rank_facts (xs : List Ht) (h : goodR (xs.map Ht.k) = true) : sumP xs xs.length = (rkV (xs.map Ht.k)).length ∧ ∀ k (hk : k < xs.length), goodH xs[k].k = true ∧ (∀ x ∈ plV xs[k].k, x ∈ rkV (xs.map Ht.k)) ∧ sumP xs (k + 1) ≤ (rkV (xs.map Ht.k)).length := by
  have hs : sumP xs xs.length = (rkV (xs.map Ht.k)).length := by
    unfold sumP
    rw [rank_sum h, List.take_length, List.map_map]
    rfl
  refine ⟨hs, fun k hk => ⟨goodH_true ((goodR_iff.1 h).1 _ (List.mem_map_of_mem (List.getElem_mem hk))), fun x hx => rank_has h (k := k) (by simpa using hk) (by simpa using hx), ?_⟩⟩
  rw [← hs]
  exact sumP_le xs (xs.length - (k + 1)) (k + 1) (by omega)
theorem rank_few (ks : List HK) : (rkV ks).length ≤ 24 := by
  have := rkF_len ks
  simpa [rkV] using this
end Go.Proofs.Ytabgmbmaakglkaa
