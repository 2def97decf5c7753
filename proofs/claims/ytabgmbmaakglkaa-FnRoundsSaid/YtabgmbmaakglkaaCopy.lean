/- copy at elements of several cells, into a row of the call's own. No condition. -/
import Derived.Test.YtabgmbmaakglkaaSl
import Derived.Laws.CopyRow
namespace Go.Proofs.Ytabgmbmaakglkaa
open Go Go.RowKit

/-- A guard: the operation is a copy. -/
theorem at_copy_ {P : Program} {ops : Array Oper} {Q : Exit → Act → World → Prop} {d : Option Tmp} {x y : Operand} {t t' ty : TypeId} {pos : String} {af : Array Edge} {g : Option (Nat × Bool)} {rest : List Oper} {a : Act} {w : World}
    (h : wpList P ops Q (⟨d, .call { callee := .builtin .copy, args := #[x, y], argTypes := #[t, t'] }, ty, pos, af, g⟩ :: rest) a w) :
    wpList P ops Q (⟨d, .call { callee := .builtin .copy, args := #[x, y], argTypes := #[t, t'] }, ty, pos, af, g⟩ :: rest) a w := h
section
variable {P : Program} {t e : TypeId} {zv : Value} {z : List Value} {sz bytes : Nat}
theorem flatten_take (sz : Nat) : ∀ (ys : List (List Value)) (_ : ∀ y ∈ ys, y.length = sz) (k : Nat), ys.flatten.take (k * sz) = (ys.take k).flatten
  | [], _, k => by simp
  | y :: ys, h, 0 => by simp
  | y :: ys, h, k + 1 => by
    have hy := h y (by simp)
    rw [List.flatten_cons, List.take_append, List.take_of_length_le (by rw [hy, Nat.add_mul]; omega), hy,
      show (k + 1) * sz - sz = k * sz by rw [Nat.add_mul]; omega, flatten_take sz ys (fun z hz => h z (by simp [hz])) k]
    simp
theorem flatten_drop (sz : Nat) : ∀ (ys : List (List Value)) (_ : ∀ y ∈ ys, y.length = sz) (k : Nat), ys.flatten.drop (k * sz) = (ys.drop k).flatten
  | [], _, k => by simp
  | y :: ys, h, 0 => by simp
  | y :: ys, h, k + 1 => by
    have hy := h y (by simp)
    rw [List.flatten_cons, List.drop_append, List.drop_of_length_le (by rw [hy, Nat.add_mul]; omega), hy,
      show (k + 1) * sz - sz = k * sz by rw [Nat.add_mul]; omega, flatten_drop sz ys (fun z hz => h z (by simp [hz])) k]
    simp

theorem copy_run (T : Ty P t e zv z sz bytes) {w : World} {base g n cap : Nat} {ys : List (List Value)} (hown : Row base e sz w (.slice (some ⟨g, 0, none⟩) n cap) ys) (t' ty : TypeId) (k dLen dCap : Nat) (dp : Option Addr) (A : Option Addr) (m c : Nat)
    (news : List (List Value)) (hn : news.length = Nat.min m dLen) (hpos : 0 < news.length → dp = some ⟨g, k * sz, none⟩ ∧ ∃ b off, A = some ⟨b, off, none⟩ ∧ ∀ i (h : i < news.length), w.rangeAt b (off + i * sz) news[i])
    (hy : ∀ y ∈ news, y.length = sz ∧ ∀ u ∈ y, u.oneCell' = true) (hfit : k + news.length ≤ ys.length) :
    ∃ w', (Builtin.copy_ #[t, t'] ty #[.slice dp dLen dCap, .slice A m c]).run P w = .ok (goInt news.length) w' ∧ Row base e sz w' (.slice (some ⟨g, 0, none⟩) n cap) (ys.take k ++ news ++ ys.drop (k + news.length)) ∧ w.grownBy w' (some g) := by
  obtain ⟨i, h2, h3, h4, h5⟩ := info_parts T.hi
  by_cases h0 : 0 < news.length
  · obtain ⟨rfl, b, off, rfl, hk⟩ := hpos h0
    have hfl := flat_len sz news (fun y h => (hy y h).1)
    have hl := run_loadCells_list (P := P) w ⟨b, off, none⟩ news.flatten (fun j u hu => by
      have hj : j < news.length * sz := by rw [← hfl]; exact (List.getElem?_eq_some_iff.1 hu).1
      have hkk : j / sz < news.length := Nat.div_lt_of_lt_mul (by rw [Nat.mul_comm]; exact hj)
      have hjj : j % sz < sz := Nat.mod_lt _ T.pos
      have e1 : j = j / sz * sz + j % sz := by rw [Nat.mul_comm]; exact (Nat.div_add_mod _ _).symm
      rw [e1, flat_get sz news (fun y h => (hy y h).1) _ _ hkk hjj] at hu
      have := hk (j / sz) hkk (j % sz) u hu
      rw [Addr.add_mid]
      rw [show off + j = off + j / sz * sz + j % sz from by omega]
      exact this)
    rcases hown.2.2 with ⟨h', _⟩ | ⟨g', cap', cur, h', hb, hg, hnc, hcm, hcs, htake⟩
    · simp at h'
    · simp only [Value.slice.injEq, Option.some.injEq, Addr.mk.injEq, and_true] at h'
      obtain ⟨rfl, hnn, rfl⟩ := h'
      have hle : (k + news.length) * sz ≤ ys.length * sz := Nat.mul_le_mul_right _ hfit
      have hle2 : ys.length * sz ≤ cap * sz := Nat.mul_le_mul_right _ hnc
      have e0 : (k + news.length) * sz = k * sz + news.length * sz := Nat.add_mul _ _ _
      rw [hfl] at hl
      have hst := run_storeCells_at P g (k * sz) e news.flatten 0 cur w hg (by rw [hfl]; omega) (fun u hu => by
        obtain ⟨y, hy1, hy2⟩ := List.mem_flatten.1 hu
        exact (hy y hy1).2 u hy2)
      subst hnn
      have hL : (cur.toList.take (k * sz + 0) ++ news.flatten ++ cur.toList.drop (k * sz + 0 + news.flatten.length)).length = cap * sz := by
        simp only [List.length_append, List.length_take, List.length_drop, hfl, Array.length_toList, hcs]; omega
      have hf : (ys.take k ++ news ++ ys.drop (k + news.length)).flatten = ys.flatten.take (k * sz) ++ news.flatten ++ ys.flatten.drop ((k + news.length) * sz) := by
        rw [flatten_take sz ys hown.1, flatten_drop sz ys hown.1]; simp
      have hnl : (ys.take k ++ news ++ ys.drop (k + news.length)).length = ys.length := by simp; omega
      have hy' : ∀ y ∈ ys.take k ++ news ++ ys.drop (k + news.length), y.length = sz := by
        intro y hy'
        rcases List.mem_append.1 hy' with hy' | hy'
        · rcases List.mem_append.1 hy' with hy' | hy'
          · exact hown.1 y (List.mem_of_mem_take hy')
          · exact (hy y hy').1
        · exact hown.1 y (List.mem_of_mem_drop hy')
      have ht : (cur.toList.take (k * sz + 0) ++ news.flatten ++ cur.toList.drop (k * sz + 0 + news.flatten.length)).take (ys.length * sz) = (ys.take k ++ news ++ ys.drop (k + news.length)).flatten := by
        rw [hf, ← htake, List.take_take, List.drop_take, Nat.min_eq_left (by omega), Nat.add_zero, hfl, ← e0]
        rw [List.take_append, List.take_of_length_le (by simp only [List.length_append, List.length_take, hfl, Array.length_toList, hcs]; omega)]
        congr 2
        simp only [List.length_append, List.length_take, hfl, Array.length_toList, hcs]; omega
      refine ⟨w.setRow g (cur.toList.take (k * sz + 0) ++ news.flatten ++ cur.toList.drop (k * sz + 0 + news.flatten.length)).toArray, ?_, ⟨hy', ?_⟩, ?_⟩
      · simp [Builtin.copy_, run_underlying T.ht, Builtin.lenOf, Builtin.firstCells, sizeOf, typeInfo, h2, h4, ← hn, hl, hst]
      · rw [hnl]
        refine ⟨by rw [flat_len sz _ hy', hnl], .inr ⟨g, cap, _, rfl, hb, setRow_heap w g cur _ e _ hg, hnc, hcm, by simpa using hL, by simpa using ht⟩⟩
      · exact ⟨rfl, rfl, rfl, by simp [World.setRow], fun j _ hj => setRow_other w g j _ (fun e => hj (by simp [e]))⟩
  · obtain rfl : news = [] := List.eq_nil_of_length_eq_zero (by omega)
    refine ⟨w, ?_, by simpa using hown, World.grownBy.refl _ _⟩
    cases dp <;> cases A <;> simp [Builtin.copy_, run_underlying T.ht, Builtin.lenOf, Builtin.firstCells, sizeOf, typeInfo, h2, ← hn, loadCells, loadCellsFrom, storeCells]

theorem zeroCells_flat (z : List Value) (n : Nat) (hz : 0 < z.length) : (Builtin.zeroCells z.toArray n).toList = (List.replicate n z).flatten := by
  rw [← madeCells_flat z n hz]
  simp [Builtin.zeroCells, madeCells]

/-- The first k elements of a row are a row. -/
theorem Row.prefix_ {w : World} {base g n cap k : Nat} {ys : List (List Value)} (h : Row base e sz w (.slice (some ⟨g, 0, none⟩) n cap) ys) (hk : k ≤ ys.length) : Row base e sz w (.slice (some ⟨g, 0, none⟩) k cap) (ys.take k) := by
  have hy : ∀ y ∈ ys.take k, y.length = sz := fun y hy => h.1 y (List.mem_of_mem_take hy)
  refine ⟨hy, by rw [flat_len sz _ hy], ?_⟩
  rcases h.2.2 with ⟨h', _⟩ | ⟨g', cap', cur, h', hb, hg, hnc, hcm, hcs, htake⟩
  · simp at h'
  · simp only [Value.slice.injEq, Option.some.injEq, Addr.mk.injEq, and_true] at h'
    obtain ⟨rfl, hnn, rfl⟩ := h'
    have hkl : (ys.take k).length = k := by simp; omega
    rw [hkl]
    refine .inr ⟨g, cap, cur, rfl, hb, hg, by omega, hcm, hcs, ?_⟩
    have hle : k * sz ≤ ys.length * sz := Nat.mul_le_mul_right _ hk
    rw [← flatten_take sz ys h.1, ← htake, List.take_take, Nat.min_eq_left hle]

/-- append(s, make([]T, m)...) where there is no room. -/
theorem append_zeros (T : Ty P t e zv z sz bytes) {w : World} {base g n cap : Nat} {ys : List (List Value)} (hown : Row base e sz w (.slice (some ⟨g, 0, none⟩) n cap) ys) (tn ty : TypeId) {kn kk : IntKind} (htn : P.underlying tn = some (.int kn)) (m : Nat)
    (hroom : cap < ys.length + m) (hn : ys.length + m ≤ 2147483648) (hb : base ≤ w.heap.size) :
    ∃ c w', (Builtin.append_ #[t, tn] ty #[.slice (some ⟨g, 0, none⟩) n cap, .int kk (m : Int)]).run P w = .ok (.slice (some ⟨w.heap.size, 0, none⟩) (ys.length + m) c) w' ∧
      Row base e sz w' (.slice (some ⟨w.heap.size, 0, none⟩) (ys.length + m) c) (ys ++ List.replicate m z) ∧ Below w.heap.size w w' ∧ w.heap.size < w'.heap.size := by
  obtain ⟨i, h2, h3, h4, h5⟩ := info_parts T.hi
  have hnl : n = ys.length := hown.none_len
  subst hnl
  have hcap := hown.2.2
  have h0 : 0 < m := by
    rcases hown.2.2 with ⟨h', _⟩ | ⟨g', cap', cur, h', _, _, hnc, _⟩ <;> simp at h'
    omega
  have hsm : (ys.length + m) * bytes ≤ 2147483648 * 65536 := Nat.mul_le_mul hn T.small
  have hnc : ¬ (ys.length + m ≤ cap) := by omega
  have hw : IntKind.i64.wrap (m : Int) = m := by rw [IntKind.wrap_i64]; omega
  have hneg : ¬ ((m : Int) < 0) := by omega
  have hns : ¬ (m * i.size = 0) := Nat.mul_ne_zero (by omega) (by rw [h4]; have := T.pos; omega)
  have hmb : m * bytes ≤ (ys.length + m) * bytes := Nat.mul_le_mul_right _ (by omega)
  have h48i : ¬ (281474976710656 < (m : Int) * (i.bytes : Int)) := by
    rw [← Int.natCast_mul, h5]
    omega
  have h63' : ¬ (9223372036854775807 < ((ys.length : Int) + (m : Int))) := by omega
  have h48' : ¬ (281474976710656 < Builtin.nextslicecap (ys.length + m) cap * i.bytes) := by
    rw [h5]
    have := growslice_fits (need := ys.length + m) (old := cap) (bytes := bytes) (by omega) (by omega)
    omega
  have hf := run_firstCells_some (P := P) w.drew i.size ys.length ⟨g, 0, none⟩ ys.length cap ys.flatten (by rw [h4]; exact flat_len sz ys hown.1) (by simpa using hown.2.cells (g := g) rfl)
  have hz0 : zv.cells.size = sz := by rw [T.hz]; simpa using T.hzl
  have hzf := zeroCells_flat z m (by rw [T.hzl]; exact T.pos)
  have hge := grownCap_ge w (ys.length + m) cap e
  have hcm : grownCap w (ys.length + m) cap e ≤ maxLen := grownCap_le_maxLen w (ys.length + m) cap e (by unfold maxLen; omega)
  have hy : ∀ y ∈ ys ++ List.replicate m z, y.length = sz := by
    intro y hy
    rcases List.mem_append.1 hy with hy | hy
    · exact hown.1 y hy
    · rw [(List.mem_replicate.1 hy).2, T.hzl]
  have hfl := flat_len sz _ hy
  have hl : (ys ++ List.replicate m z).length = ys.length + m := by simp
  rw [hl] at hfl
  refine ⟨grownCap w (ys.length + m) cap e, w.drew.alloc (.cells (ys.flatten.toArray ++ Builtin.zeroCells zv.cells m ++ Builtin.zeroCells zv.cells (grownCap w (ys.length + m) cap e - (ys.length + m))) e), ?_, ⟨hy, ?_⟩, ?_, ?_⟩
  · simp [Builtin.append_, run_underlying T.ht, run_underlying htn, sizeOf, typeInfo, zeroValue, h2, h3, asInt, asIntOf, hw, hnc, hneg, hns, h63', h48', h48i, Question.forced, hf, newRow, grownCap]
  · rw [hl]
    refine ⟨hfl, .inr ⟨w.heap.size, _, _, rfl, hb, heap_alloc_new w.drew _, hge, hcm, ?_, ?_⟩⟩
    · simp only [Array.size_append, List.size_toArray, size_zeroCells, hz0, flat_len sz ys hown.1, ← Nat.add_mul]
      congr 1
      omega
    · rw [T.hz]
      simp only [Array.toList_append, hzf, List.append_assoc]
      rw [← List.append_assoc, ← List.flatten_append, ← hfl]
      exact List.take_left
  · exact ⟨rfl, rfl, rfl, by simp, fun k hk => heap_alloc_old w.drew _ hk⟩
  · simp

/-- append(s, make([]T, m)...) at the operation, where there is no room; s the first ys of a row. -/
theorem Ty.appendZeros (T : Ty P t e zv z sz bytes) {w : World} {ops : Array Oper} {rest : List Oper} {o : Oper} {a : Act} {Q : Exit → Act → World → Prop} (hgd : o.guard = none) (s x : Operand) (tn : TypeId) {kn : IntKind} (htn : P.underlying tn = some (.int kn))
    (ho : o.op = .call { callee := .builtin .append, args := #[s, x], argTypes := #[t, tn] })
    (base g n cap : Nat) (ys : List (List Value)) (hs : a.eval s = .slice (some ⟨g, 0, none⟩) n cap) (hown : Row base e sz w (.slice (some ⟨g, 0, none⟩) n cap) ys) (kk : IntKind) (M : Int) (m : Nat) (hx : a.eval x = .int kk M) (hM : M = (m : Int))
    (hroom : cap < ys.length + m) (hn : ys.length + m ≤ 2147483648) (hb : base ≤ w.heap.size)
    (h : ∀ c w', Row base e sz w' (.slice (some ⟨w.heap.size, 0, none⟩) (ys.length + m) c) (ys ++ List.replicate m z) → Below w.heap.size w w' → w.heap.size < w'.heap.size → wpList P ops Q rest (a.put o.dst (.slice (some ⟨w.heap.size, 0, none⟩) (ys.length + m) c)) w') : wpList P ops Q (o :: rest) a w := by
  subst hM
  refine wpList_plain hgd fun K hK => ?_
  obtain ⟨c, w', hrun, h2, h3, h4⟩ := append_zeros T (kk := kk) hown tn o.type htn m hroom hn hb
  unfold Oper.wp execOp
  simp only [ho, resolve, invoke, builtin, Sem.run_bind, Sem.run_pure, Result.andThen_ok, List.map_toArray, List.map_cons, List.map_nil, hs, hx, hrun]
  exact hK _ _ (h c w' h2 h3 h4)

/-- copy(d, s) at the operation, d inside a row of the call's own. -/
theorem Ty.copy (T : Ty P t e zv z sz bytes) {w : World} {ops : Array Oper} {rest : List Oper} {o : Oper} {a : Act} {Q : Exit → Act → World → Prop} (hgd : o.guard = none) (d s : Operand) (t' : TypeId)
    (ho : o.op = .call { callee := .builtin .copy, args := #[d, s], argTypes := #[t, t'] })
    (base g n cap : Nat) (ys : List (List Value)) (hown : Row base e sz w (.slice (some ⟨g, 0, none⟩) n cap) ys) (k dLen dCap : Nat) (dp : Option Addr) (hd : a.eval d = .slice dp dLen dCap) (A : Option Addr) (m c : Nat) (hs : a.eval s = .slice A m c)
    (news : List (List Value)) (hn : news.length = Nat.min m dLen) (hpos : 0 < news.length → dp = some ⟨g, k * sz, none⟩ ∧ ∃ b off, A = some ⟨b, off, none⟩ ∧ ∀ i (h : i < news.length), w.rangeAt b (off + i * sz) news[i])
    (hy : ∀ y ∈ news, y.length = sz ∧ ∀ u ∈ y, u.oneCell' = true) (hfit : k + news.length ≤ ys.length)
    (h : ∀ w', Row base e sz w' (.slice (some ⟨g, 0, none⟩) n cap) (ys.take k ++ news ++ ys.drop (k + news.length)) → w.grownBy w' (some g) → wpList P ops Q rest (a.put o.dst (goInt news.length)) w') : wpList P ops Q (o :: rest) a w := by
  refine wpList_plain hgd fun K hK => ?_
  obtain ⟨w', hrun, h2, h3⟩ := copy_run T hown t' o.type k dLen dCap dp A m c news hn hpos hy hfit
  unfold Oper.wp execOp
  simp only [ho, resolve, invoke, builtin, Sem.run_bind, Sem.run_pure, Result.andThen_ok, List.map_toArray, List.map_cons, List.map_nil, hd, hs, hrun]
  exact hK _ _ (h w' h2 h3)

/-- The same as one step of a region that draws. -/
theorem Ty.stepCopy (T : Ty P t e zv z sz bytes) {w : World} {ops : Array Oper} {o : Oper} {a : Act} {K : Act → World → Prop} {Q : Exit → Act → World → Prop} {E : Prop} (hgd : o.guard = none) (d s : Operand) (t' : TypeId)
    (ho : o.op = .call { callee := .builtin .copy, args := #[d, s], argTypes := #[t, t'] })
    (base g n cap : Nat) (ys : List (List Value)) (hown : Row base e sz w (.slice (some ⟨g, 0, none⟩) n cap) ys) (k dLen dCap : Nat) (dp : Option Addr) (hd : a.eval d = .slice dp dLen dCap) (A : Option Addr) (m c : Nat) (hs : a.eval s = .slice A m c)
    (news : List (List Value)) (hn : news.length = Nat.min m dLen) (hpos : 0 < news.length → dp = some ⟨g, k * sz, none⟩ ∧ ∃ b off, A = some ⟨b, off, none⟩ ∧ ∀ i (h : i < news.length), w.rangeAt b (off + i * sz) news[i])
    (hy : ∀ y ∈ news, y.length = sz ∧ ∀ u ∈ y, u.oneCell' = true) (hfit : k + news.length ≤ ys.length)
    (h : ∀ w', Row base e sz w' (.slice (some ⟨g, 0, none⟩) n cap) (ys.take k ++ news ++ ys.drop (k + news.length)) → w.grownBy w' (some g) → K (a.put o.dst (goInt news.length)) w') :
    if Region.wanted o (yielded ops a.tmps) = true then Oper.wp P o a w K Q else E := by
  have hw : Region.wanted o (yielded ops a.tmps) = true := by simp [Region.wanted, hgd]
  rw [if_pos hw]
  obtain ⟨w', hrun, h2, h3⟩ := copy_run T hown t' o.type k dLen dCap dp A m c news hn hpos hy hfit
  unfold Oper.wp execOp
  simp only [ho, resolve, invoke, builtin, Sem.run_bind, Sem.run_pure, Result.andThen_ok, List.map_toArray, List.map_cons, List.map_nil, hd, hs, hrun]
  exact h w' h2 h3
/-- clear of the last m elements of a row. -/
theorem clear_run (T : Ty P t e zv z sz bytes) (hz1 : ∀ u ∈ z, u.oneCell' = true) {w : World} {base g n cap : Nat} {ys : List (List Value)} (hown : Row base e sz w (.slice (some ⟨g, 0, none⟩) n cap) ys) (ty : TypeId) (k m c : Nat) (dp : Option Addr)
    (hm : k + m = ys.length) (hdp : 0 < m → dp = some ⟨g, k * sz, none⟩) :
    ∃ w', (Builtin.clear_ #[t] ty #[.slice dp m c]).run P w = .ok (.tuple #[]) w' ∧ Row base e sz w' (.slice (some ⟨g, 0, none⟩) n cap) (ys.take k ++ List.replicate m z) ∧ w.grownBy w' (some g) := by
  obtain ⟨i, h2, h3, h4, h5⟩ := info_parts T.hi
  by_cases h0 : 0 < m
  · obtain rfl := hdp h0
    have hzf := zeroCells_flat z m (by rw [T.hzl]; exact T.pos)
    have hzy : ∀ y ∈ List.replicate m z, y.length = sz := fun y hy => by rw [(List.mem_replicate.1 hy).2, T.hzl]
    have hfl := flat_len sz _ hzy
    simp only [List.length_replicate] at hfl
    rcases hown.2.2 with ⟨h', _⟩ | ⟨g', cap', cur, h', hb, hg, hnc, hcm, hcs, htake⟩
    · simp at h'
    · simp only [Value.slice.injEq, Option.some.injEq, Addr.mk.injEq, and_true] at h'
      obtain ⟨rfl, hnn, rfl⟩ := h'
      have e0 : ys.length * sz = k * sz + m * sz := by rw [← hm, Nat.add_mul]
      have hle2 : ys.length * sz ≤ cap * sz := Nat.mul_le_mul_right _ hnc
      have hst := run_storeCells_at P g (k * sz) e (List.replicate m z).flatten 0 cur w hg (by rw [hfl]; omega) (fun u hu => by
        obtain ⟨y, hy1, hy2⟩ := List.mem_flatten.1 hu
        rw [(List.mem_replicate.1 hy1).2] at hy2
        exact hz1 u hy2)
      subst hnn
      have hy' : ∀ y ∈ ys.take k ++ List.replicate m z, y.length = sz := by
        intro y hy'
        rcases List.mem_append.1 hy' with hy' | hy'
        · exact hown.1 y (List.mem_of_mem_take hy')
        · exact hzy y hy'
      have hnl : (ys.take k ++ List.replicate m z).length = ys.length := by simp; omega
      have ht : (cur.toList.take (k * sz + 0) ++ (List.replicate m z).flatten ++ cur.toList.drop (k * sz + 0 + (List.replicate m z).flatten.length)).take (ys.length * sz) = (ys.take k ++ List.replicate m z).flatten := by
        rw [List.flatten_append, ← flatten_take sz ys hown.1, ← htake, List.take_take, Nat.add_zero, Nat.min_eq_left (by omega), List.take_append, List.take_of_length_le (by simp only [List.length_append, List.length_take, hfl, Array.length_toList, hcs]; omega)]
        have : ys.length * sz - (cur.toList.take (k * sz) ++ (List.replicate m z).flatten).length = 0 := by simp only [List.length_append, List.length_take, hfl, Array.length_toList, hcs]; omega
        rw [this]
        simp
      refine ⟨w.setRow g (cur.toList.take (k * sz + 0) ++ (List.replicate m z).flatten ++ cur.toList.drop (k * sz + 0 + (List.replicate m z).flatten.length)).toArray, ?_, ⟨hy', ?_⟩, ?_⟩
      · obtain ⟨q, rfl⟩ : ∃ q, m = q + 1 := ⟨m - 1, by omega⟩
        rw [← hzf, ← T.hz] at hst
        have hrun : (Builtin.clear_ #[t] ty #[.slice (some ⟨g, k * sz, none⟩) (q + 1) c]).run P w = (Sem.run P (storeCells ⟨g, k * sz, none⟩ (Builtin.zeroCells zv.cells (q + 1)).toList) w).andThen fun _ w' => Result.ok (Value.tuple #[]) w' := by
          simp [Builtin.clear_, run_underlying T.ht, zeroValue, typeInfo, h2, h3]
        rw [hrun, hst, ← hzf, ← T.hz]
        rfl
      · rw [hnl]
        refine ⟨by rw [flat_len sz _ hy', hnl], .inr ⟨g, cap, _, rfl, hb, setRow_heap w g cur _ e _ hg, hnc, hcm, ?_, by simpa using ht⟩⟩
        simp only [List.size_toArray, List.length_append, List.length_take, List.length_drop, hfl, Array.length_toList, hcs]; omega
      · exact ⟨rfl, rfl, rfl, by simp [World.setRow], fun j _ hj => setRow_other w g j _ (fun e => hj (by simp [e]))⟩
  · obtain rfl : m = 0 := by omega
    obtain rfl : k = ys.length := by omega
    refine ⟨w, ?_, by simpa using hown, World.grownBy.refl _ _⟩
    cases dp <;> simp [Builtin.clear_, run_underlying T.ht]

/-- clear at the operation. -/
theorem Ty.clear (T : Ty P t e zv z sz bytes) (hz1 : ∀ u ∈ z, u.oneCell' = true) {w : World} {ops : Array Oper} {rest : List Oper} {o : Oper} {a : Act} {Q : Exit → Act → World → Prop} (hgd : o.guard = none) (d : Operand)
    (ho : o.op = .call { callee := .builtin .clear, args := #[d], argTypes := #[t] })
    (base g n cap : Nat) (ys : List (List Value)) (hown : Row base e sz w (.slice (some ⟨g, 0, none⟩) n cap) ys) (k m c : Nat) (dp : Option Addr) (hd : a.eval d = .slice dp m c) (hm : k + m = ys.length) (hdp : 0 < m → dp = some ⟨g, k * sz, none⟩)
    (h : ∀ w', Row base e sz w' (.slice (some ⟨g, 0, none⟩) n cap) (ys.take k ++ List.replicate m z) → w.grownBy w' (some g) → wpList P ops Q rest (a.put o.dst (.tuple #[])) w') : wpList P ops Q (o :: rest) a w := by
  refine wpList_plain hgd fun K hK => ?_
  obtain ⟨w', hrun, h2, h3⟩ := clear_run T hz1 hown o.type k m c dp hm hdp
  unfold Oper.wp execOp
  simp only [ho, resolve, invoke, builtin, Sem.run_bind, Sem.run_pure, Result.andThen_ok, List.map_toArray, List.map_cons, List.map_nil, hd, hrun]
  exact hK _ _ (h w' h2 h3)
/-- A guard: the operation is a clear. -/
theorem at_clear_ {P : Program} {ops : Array Oper} {Q : Exit → Act → World → Prop} {d : Option Tmp} {x : Operand} {t ty : TypeId} {pos : String} {af : Array Edge} {g : Option (Nat × Bool)} {rest : List Oper} {a : Act} {w : World}
    (h : wpList P ops Q (⟨d, .call { callee := .builtin .clear, args := #[x], argTypes := #[t] }, ty, pos, af, g⟩ :: rest) a w) :
    wpList P ops Q (⟨d, .call { callee := .builtin .clear, args := #[x], argTypes := #[t] }, ty, pos, af, g⟩ :: rest) a w := h
end
end Go.Proofs.Ytabgmbmaakglkaa
