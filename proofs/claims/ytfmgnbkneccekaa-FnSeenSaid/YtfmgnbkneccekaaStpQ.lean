/- Plain: the steps of a race, and that they keep a race valid. No condition. -/
import Derived.Test.YtfmgnbkneccekaaRcW
namespace Go.Proofs.Ytfmgnbkneccekaa
open Go Go.RowKit

structure Step where
  kind : Int
  entrant : Int
  value : Int

def Step.lst (p : Step) : List Value := [.int .i64 p.kind, .int .i64 p.entrant, .int .i64 p.value]
theorem Step.lst_len (p : Step) : p.lst.length = 3 := rfl
abbrev Step.val (p : Step) : Value := .agg p.lst.toArray
theorem Step.one (p : Step) : ∀ u ∈ p.lst, u.oneCell' = true := by simp [Step.lst, Value.oneCell']
def Step.ok (p : Step) : Prop := I64 p.kind ∧ I64 p.entrant ∧ I64 p.value
def stepZ : List Value := [.int .i64 0, .int .i64 0, .int .i64 0]
def stepSh : Sh := .cat 3 (.int .i64) (.cat 3 (.int .i64) (.cat 3 (.int .i64) (.emp)))
theorem step_of_holds {w : World} {cs : List Value} (h : Holds w stepSh cs) : ∃ p : Step, cs = p.lst ∧ p.ok := by
  obtain ⟨_, _, rfl, _, ⟨n0, rfl, w0⟩, _, _, rfl, _, ⟨n1, rfl, w1⟩, _, _, rfl, _, ⟨n2, rfl, w2⟩, rfl⟩ := h
  exact ⟨⟨n0, n1, n2⟩, rfl, i64_of_wf w0, i64_of_wf w1, i64_of_wf w2⟩
theorem Step.rangeNew (w : World) (p : Step) (t : TypeId) : (w.alloc (.cells #[.int .i64 p.kind, .int .i64 p.entrant, .int .i64 p.value] t)).rangeAt w.heap.size 0 p.lst := rangeAt_new w p.lst t
theorem Step.cells {w : World} {b off : Nat} {p : Step} (h : w.rangeAt b off p.lst) : w.cell? ⟨b, off, none⟩ = some (.int .i64 p.kind) ∧ w.cell? ⟨b, off + 1, none⟩ = some (.int .i64 p.entrant) ∧ w.cell? ⟨b, off + 2, none⟩ = some (.int .i64 p.value) :=
  ⟨h 0 _ rfl, h 1 _ rfl, h 2 _ rfl⟩
theorem Step.cellsNew (w : World) (p : Step) (t : TypeId) : ∀ s : After (w.alloc (.cells #[.int .i64 p.kind, .int .i64 p.entrant, .int .i64 p.value] t)), s.w'.cell? ⟨w.heap.size, 0, none⟩ = some (.int .i64 p.kind) ∧ s.w'.cell? ⟨w.heap.size, 1, none⟩ = some (.int .i64 p.entrant) ∧ s.w'.cell? ⟨w.heap.size, 2, none⟩ = some (.int .i64 p.value) := by
  intro s
  obtain ⟨h0, h1, h2⟩ := Step.cells (rangeAt_below (Step.rangeNew w p t) s.hb)
  simp only [Nat.zero_add] at h1 h2
  exact ⟨h0, h1, h2⟩
theorem Step.cellsOld {w : World} {b off : Nat} {p : Step} (h : w.rangeAt b off p.lst) : ∀ s : After w, s.w'.cell? ⟨b, off, none⟩ = some (.int .i64 p.kind) ∧ s.w'.cell? ⟨b, off + 1, none⟩ = some (.int .i64 p.entrant) ∧ s.w'.cell? ⟨b, off + 2, none⟩ = some (.int .i64 p.value) :=
  fun s => Step.cells (rangeAt_below h s.hb)
theorem stStepLaws : St Try.prog 51 3 := ⟨⟨_, Try.underlying51⟩, by kernel_rfl⟩
theorem Step.loadLaws {w : World} {ops : Array Oper} {rest : List Oper} {o : Oper} {a : Act} {Q : Exit → Act → World → Prop} (hgd : o.guard = none) (x : Operand) (ho : o.op = .load 51 x) (b off : Nat) (hx : a.eval x = .pointer (some ⟨b, off, none⟩)) (p : Step) (hc : w.rangeAt b off p.lst)
    (h : wpList Try.prog ops Q rest (a.put o.dst (.agg #[.int .i64 p.kind, .int .i64 p.entrant, .int .i64 p.value])) w) : wpList Try.prog ops Q (o :: rest) a w := stStepLaws.load hgd x ho b off hx p.lst rfl hc h
theorem Step.qloadLaws {w : World} {ops : Array Oper} {rest : List Oper} {o : Oper} {a : Act} {Q : Act → Prop} (hw : Region.wanted o (yielded ops a.tmps) = true) (x : Operand) (ho : o.op = .load 51 x) (b off : Nat) (hx : a.eval x = .pointer (some ⟨b, off, none⟩)) (p : Step) (hc : w.rangeAt b off p.lst)
    (h : wpQuiet Try.prog ops (Cl w) Q rest (a.put o.dst (.agg #[.int .i64 p.kind, .int .i64 p.entrant, .int .i64 p.value]))) : wpQuiet Try.prog ops (Cl w) Q (o :: rest) a := stStepLaws.qload hw x ho b off hx p.lst rfl hc h
theorem stStepImpl : St Try.prog 53 3 := ⟨⟨_, Try.underlying53⟩, by kernel_rfl⟩
theorem Step.loadImpl {w : World} {ops : Array Oper} {rest : List Oper} {o : Oper} {a : Act} {Q : Exit → Act → World → Prop} (hgd : o.guard = none) (x : Operand) (ho : o.op = .load 53 x) (b off : Nat) (hx : a.eval x = .pointer (some ⟨b, off, none⟩)) (p : Step) (hc : w.rangeAt b off p.lst)
    (h : wpList Try.prog ops Q rest (a.put o.dst (.agg #[.int .i64 p.kind, .int .i64 p.entrant, .int .i64 p.value])) w) : wpList Try.prog ops Q (o :: rest) a w := stStepImpl.load hgd x ho b off hx p.lst rfl hc h
theorem Step.qloadImpl {w : World} {ops : Array Oper} {rest : List Oper} {o : Oper} {a : Act} {Q : Act → Prop} (hw : Region.wanted o (yielded ops a.tmps) = true) (x : Operand) (ho : o.op = .load 53 x) (b off : Nat) (hx : a.eval x = .pointer (some ⟨b, off, none⟩)) (p : Step) (hc : w.rangeAt b off p.lst)
    (h : wpQuiet Try.prog ops (Cl w) Q rest (a.put o.dst (.agg #[.int .i64 p.kind, .int .i64 p.entrant, .int .i64 p.value]))) : wpQuiet Try.prog ops (Cl w) Q (o :: rest) a := stStepImpl.qload hw x ho b off hx p.lst rfl hc h
theorem tyStep : Ty Try.prog 60 53 (.agg stepZ.toArray) stepZ 3 24 := ⟨Try.underlying60, by kernel_rfl, rfl, rfl, by decide, by decide⟩
theorem fitStep : ∃ fs, Fit Try.prog (.str fs stepSh) (.inl 51) := ⟨_, Try.underlying51, by kernel_rfl, ⟨_, _, rfl, rfl, rfl, by kernel_rfl, Try.underlying3, ⟨_, _, rfl, rfl, rfl, by kernel_rfl, Try.underlying3, ⟨_, _, rfl, rfl, rfl, by kernel_rfl, Try.underlying3, rfl⟩⟩⟩⟩
theorem fitStepS : ∃ fs, Fit Try.prog (.sl 51 (.str fs stepSh)) (.inl 56) := by
  obtain ⟨fs, h⟩ := fitStep
  exact ⟨fs, Try.underlying56, by kernel_rfl, by show 0 < stepSh.size; decide, h⟩

/-- Whether an entrant can make a step, and what it becomes. -/
def entStepB (e : EntK) (s : Step) : Bool :=
  if s.kind = 2 then e.state == 0 && s.value == 0
  else if s.kind = 3 then e.state == 1 && inB s.value 31 99 && decide (e.card.punches.length < 12)
  else if s.kind = 4 ∨ s.kind = 5 then e.state == 1 && s.value == 0
  else false
def entStepV (clock : Int) (i : Nat) (e : EntK) (s : Step) : EntK :=
  if s.kind = 2 then ⟨1, ⟨(i : Int) + 1, clock, -1, []⟩⟩
  else if s.kind = 3 then ⟨e.state, ⟨e.card.number, e.card.start, e.card.finish, e.card.punches ++ [⟨s.value, clock⟩]⟩⟩
  else if s.kind = 4 then ⟨2, ⟨e.card.number, e.card.start, clock, e.card.punches⟩⟩
  else ⟨3, e.card⟩
def closeE (e : EntK) : EntK := if e.state = 0 then ⟨4, e.card⟩ else e
def noneOut (es : List EntK) : Bool := !(es.any fun e => e.state == 1)
/-- A step of an entrant. -/
def entB (k : RaceK) (s : Step) : Bool := inB s.entrant 0 ((k.field.length : Int) - 1) && (match k.field[s.entrant.toNat]? with | some e => entStepB e s | none => false)
def entV (k : RaceK) (s : Step) : RaceK := ⟨k.clock, k.closed, k.field.modify s.entrant.toNat fun e => entStepV k.clock s.entrant.toNat e s⟩
def entN (k : RaceK) (s : Step) : RaceK := if entB k s = true then entV k s else k
theorem entN_no {k : RaceK} {s : Step} (h : entB k s = false) : entN k s = k := by simp [entN, h]
theorem entN_yes {k : RaceK} {s : Step} (h : entB k s = true) : entN k s = entV k s := by simp [entN, h]
/-- Whether a step is possible, and the race behind it. -/
def stepB (k : RaceK) (s : Step) : Bool :=
  if s.kind = 1 then !k.closed && s.entrant == 0 && inB s.value 1 (36000 - k.clock)
  else if s.kind = 6 then !k.closed && s.entrant == 0 && s.value == 0 && noneOut k.field
  else entB k s
def stepV (k : RaceK) (s : Step) : RaceK :=
  if s.kind = 1 then ⟨k.clock + s.value, k.closed, k.field⟩
  else if s.kind = 6 then ⟨k.clock, true, k.field.map closeE⟩
  else entV k s
def stepN (k : RaceK) (s : Step) : RaceK := if stepB k s = true then stepV k s else k

theorem punchesOk_snoc {t c : Int} (hc : inB c 31 99 = true) (ht : inB t 0 36000 = true) : ∀ (ps : List Punch) (last : Int), punchesOk (-1) last ps = true → last ≤ t → (∀ p ∈ ps, p.time ≤ t) → punchesOk (-1) last (ps ++ [⟨c, t⟩]) = true
  | [], last, _, hl, _ => by simp [punchesOk, punchOk, hc, ht, hl]
  | p :: ps, last, h, hl, hp => by
    simp only [punchesOk, Bool.and_eq_true] at h
    simp only [List.cons_append, punchesOk, Bool.and_eq_true]
    exact ⟨h.1, punchesOk_snoc hc ht ps p.time h.2 (hp p (by simp)) (fun q hq => hp q (by simp [hq]))⟩
theorem punchesOk_fin {t : Int} : ∀ (ps : List Punch) (last : Int), punchesOk (-1) last ps = true → (∀ p ∈ ps, p.time ≤ t) → punchesOk t last ps = true
  | [], _, _, _ => rfl
  | p :: ps, last, h, hp => by
    simp only [punchesOk, Bool.and_eq_true, punchOk, decide_eq_true_eq] at h ⊢
    have := hp p (by simp)
    refine ⟨⟨h.1.1, ?_⟩, punchesOk_fin ps p.time h.2 (fun q hq => hp q (by simp [hq]))⟩
    simp only [Bool.or_eq_true, decide_eq_true_eq]
    exact .inr this
theorem runningOk_iff {clock : Int} {i : Nat} {e : EntK} : runningOk clock i e = true ↔ cardOk e.card = true ∧ e.card.number = (i : Int) + 1 ∧ latestC e.card ≤ clock ∧ (e.card.finish ≠ -1 ↔ e.state = 2) := by
  unfold runningOk
  simp only [Bool.and_eq_true, beq_iff_eq, decide_eq_true_eq, and_assoc]
  refine and_congr_right fun _ => and_congr_right fun _ => and_congr_right fun _ => ?_
  rw [Bool.eq_iff_iff]
  simp
theorem entOk_iff {clock : Int} {closed : Bool} {i : Nat} {e : EntK} : entOk clock closed i e = true ↔
    (e.state = 0 ∧ zeroCd e.card = true ∧ closed = false) ∨ (e.state = 4 ∧ zeroCd e.card = true ∧ closed = true) ∨ (e.state = 1 ∧ closed = false ∧ runningOk clock i e = true) ∨ ((e.state = 2 ∨ e.state = 3) ∧ runningOk clock i e = true) := by
  unfold entOk
  by_cases h0 : e.state = 0
  · simp [h0]
  by_cases h4 : e.state = 4
  · simp [h4]
  by_cases h1 : e.state = 1
  · simp [h1]
  by_cases h2 : e.state = 2 ∨ e.state = 3
  · simp only [h0, h4, h1, if_false, if_pos h2]; simp [h2]
  · simp only [h0, h4, h1, if_false, if_neg h2]; simp [h2]
theorem runningOk_mono {clock clock' : Int} {i : Nat} {e : EntK} (h : runningOk clock i e = true) (hc : clock ≤ clock') : runningOk clock' i e = true := by
  rw [runningOk_iff] at h ⊢
  exact ⟨h.1, h.2.1, by omega, h.2.2.2⟩
theorem entOk_mono {clock clock' : Int} {closed : Bool} {i : Nat} {e : EntK} (h : entOk clock closed i e = true) (hc : clock ≤ clock') : entOk clock' closed i e = true := by
  rw [entOk_iff] at h ⊢
  rcases h with h | h | h | h
  · exact .inl h
  · exact .inr (.inl h)
  · exact .inr (.inr (.inl ⟨h.1, h.2.1, runningOk_mono h.2.2 hc⟩))
  · exact .inr (.inr (.inr ⟨h.1, runningOk_mono h.2 hc⟩))
theorem step_entOk {clock : Int} {closed : Bool} {i : Nat} {e : EntK} {s : Step} (h : entOk clock closed i e = true) (hc : inB clock 0 36000 = true) (hi : (i : Int) + 1 ≤ 9999) (hs : entStepB e s = true) : entOk clock closed i (entStepV clock i e s) = true := by
  have hc' := inB_iff.1 hc
  rw [entOk_iff] at h
  unfold entStepB at hs
  unfold entStepV
  rw [entOk_iff]
  by_cases h2 : s.kind = 2
  · rw [if_pos h2] at hs ⊢
    simp only [Bool.and_eq_true, beq_iff_eq] at hs
    have hcl : closed = false := by
      rcases h with h | h | h | h
      · exact h.2.2
      · have := h.1; omega
      · exact h.2.1
      · have := h.1; omega
    refine .inr (.inr (.inl ⟨rfl, hcl, ?_⟩))
    rw [runningOk_iff]
    refine ⟨?_, rfl, ?_, by simp⟩
    · simp [cardOk, inB_iff, punchesOk]; omega
    · simp [latestC]; omega
  rw [if_neg h2] at hs ⊢
  have hrun : e.state = 1 := by
    by_cases h3 : s.kind = 3
    · rw [if_pos h3] at hs; simp only [Bool.and_eq_true, beq_iff_eq] at hs; exact hs.1.1
    · rw [if_neg h3] at hs
      by_cases h4 : s.kind = 4 ∨ s.kind = 5
      · rw [if_pos h4] at hs; simp only [Bool.and_eq_true, beq_iff_eq] at hs; exact hs.1
      · rw [if_neg h4] at hs; cases hs
  obtain ⟨hcl, hr⟩ : closed = false ∧ runningOk clock i e = true := by
    rcases h with h | h | h | h
    · have := h.1; omega
    · have := h.1; omega
    · exact h.2
    · have := h.1; omega
  rw [runningOk_iff] at hr
  obtain ⟨r1, r2, r3, r4⟩ := hr
  have hfin : e.card.finish = -1 := by
    by_cases hf : e.card.finish = -1
    · exact hf
    · have := r4.1 hf; omega
  have hlat := latest_le.1 r3
  have hst := cardOk_start r1
  have hok := r1
  simp only [cardOk, Bool.and_eq_true, decide_eq_true_eq] at hok
  rw [hfin] at hok
  by_cases h3 : s.kind = 3
  · rw [if_pos h3] at hs ⊢
    simp only [Bool.and_eq_true, beq_iff_eq, decide_eq_true_eq] at hs
    refine .inr (.inr (.inl ⟨hrun, hcl, ?_⟩))
    rw [runningOk_iff]
    refine ⟨?_, r2, ?_, by simp only [hrun, hfin]; simp⟩
    · simp only [cardOk, Bool.and_eq_true, decide_eq_true_eq, hfin, List.length_append, List.length_singleton]
      exact ⟨⟨⟨⟨hok.1.1.1.1, hok.1.1.1.2⟩, by simp⟩, by omega⟩, punchesOk_snoc hs.1.2 hc _ _ hok.2 hlat.1.1 hlat.2⟩
    · rw [latest_le]
      refine ⟨hlat.1, fun p hp => ?_⟩
      rcases List.mem_append.1 hp with hp | hp
      · exact hlat.2 p hp
      · rw [List.mem_singleton.1 hp]; exact Int.le_refl _
  rw [if_neg h3]
  by_cases h4 : s.kind = 4
  · rw [if_pos h4]
    refine .inr (.inr (.inr ⟨.inl rfl, ?_⟩))
    rw [runningOk_iff]
    refine ⟨?_, r2, ?_, by simp; omega⟩
    · simp only [cardOk, Bool.and_eq_true, decide_eq_true_eq, Bool.or_eq_true]
      exact ⟨⟨⟨⟨hok.1.1.1.1, hok.1.1.1.2⟩, .inr (inB_true hlat.1.1 hc'.2)⟩, hok.1.2⟩, punchesOk_fin _ _ hok.2 hlat.2⟩
    · rw [latest_le]
      exact ⟨⟨hlat.1.1, Int.le_refl _⟩, hlat.2⟩
  rw [if_neg h4]
  refine .inr (.inr (.inr ⟨.inr rfl, ?_⟩))
  rw [runningOk_iff]
  exact ⟨r1, r2, r3, by simp [hfin]⟩
theorem close_entOk {clock : Int} {i : Nat} {e : EntK} (h : entOk clock false i e = true) (hn : e.state ≠ 1) : entOk clock true i (closeE e) = true := by
  rw [entOk_iff] at h
  unfold closeE
  rw [entOk_iff]
  rcases h with h | h | h | h
  · rw [if_pos h.1]; exact .inr (.inl ⟨rfl, h.2.1, rfl⟩)
  · simp at h
  · exact absurd h.1 hn
  · rw [if_neg (by have := h.1; omega)]; exact .inr (.inr (.inr h))
theorem noneOut_iff {es : List EntK} : noneOut es = true ↔ ∀ e ∈ es, e.state ≠ 1 := by simp [noneOut]
/-- A possible step keeps a race valid. -/
theorem step_good {k : RaceK} {s : Step} (g : GoodRace k) (h : stepB k s = true) : GoodRace (stepV k s) := by
  obtain ⟨g1, g2, g3⟩ := g
  have g1' := inB_iff.1 g1
  have g2' := inB_iff.1 g2
  unfold stepB at h
  unfold stepV
  by_cases h1 : s.kind = 1
  · rw [if_pos h1] at h ⊢
    simp only [Bool.and_eq_true] at h
    have hv := inB_iff.1 h.2
    exact ⟨inB_true (by simp only; omega) (by simp only; omega), g2, fun i hi => entOk_mono (g3 i hi) (by simp only; omega)⟩
  rw [if_neg h1] at h ⊢
  by_cases h6 : s.kind = 6
  · rw [if_pos h6] at h ⊢
    simp only [Bool.and_eq_true, Bool.not_eq_true'] at h
    refine ⟨g1, by simpa using g2, fun i hi => ?_⟩
    have hi' : i < k.field.length := by simpa using hi
    have := g3 i hi'
    rw [h.1.1.1] at this
    simpa using close_entOk this (noneOut_iff.1 h.2 _ (List.getElem_mem hi'))
  rw [if_neg h6] at h ⊢
  unfold entB at h
  unfold entV
  simp only [Bool.and_eq_true] at h
  have hv := inB_iff.1 h.1
  refine ⟨g1, by simpa using g2, fun i hi => ?_⟩
  have hi' : i < k.field.length := by simpa using hi
  simp only [List.getElem_modify]
  by_cases e : s.entrant.toNat = i
  · rw [if_pos e]
    have h2 := h.2
    subst e
    rw [List.getElem?_eq_getElem hi'] at h2
    exact step_entOk (g3 _ hi') g1 (by omega) h2
  · rw [if_neg e]; exact g3 i hi'
theorem stepN_good {k : RaceK} {s : Step} (g : GoodRace k) : GoodRace (stepN k s) := by
  unfold stepN
  split
  · rename_i h; exact step_good g h
  · exact g
theorem good_punches {k : RaceK} (g : GoodRace k) : ∀ e ∈ k.field, e.card.punches.length ≤ 12 := by
  intro e he
  obtain ⟨i, hi, rfl⟩ := List.getElem_of_mem he
  have := entOk_iff.1 (g.2.2 i hi)
  have hz : zeroCd k.field[i].card = true → k.field[i].card.punches.length ≤ 12 := fun h => by
    simp only [zeroCd, Bool.and_eq_true, beq_iff_eq] at h; omega
  rcases this with h | h | h | h
  · exact hz h.2.1
  · exact hz h.2.1
  · exact cardOk_len (runningOk_iff.1 h.2.2).1
  · exact cardOk_len (runningOk_iff.1 h.2).1
/-- A race that a step leads to, or none. -/
noncomputable def strB (k : RaceK) (s : Step) : Bool := goodRace k && stepB k s
noncomputable def strV (k : RaceK) (s : Step) : RaceK := if strB k s = true then stepV k s else ⟨0, false, []⟩
theorem strB_good {k : RaceK} {s : Step} (h : strB k s = true) : GoodRace k ∧ stepB k s = true := by
  simp only [strB, Bool.and_eq_true] at h
  exact ⟨goodRace_iff.1 h.1, h.2⟩
theorem strV_good {k : RaceK} {s : Step} (h : strB k s = true) : GoodRace (strV k s) := by
  unfold strV
  rw [if_pos h]
  exact step_good (strB_good h).1 (strB_good h).2
theorem good_small {k : RaceK} (g : GoodRace k) : k.field.length ≤ 1048576 ∧ ∀ e ∈ k.field, e.card.punches.length ≤ 1048576 := by
  have := inB_iff.1 g.2.1
  exact ⟨by omega, fun e he => by have := good_punches g e he; omega⟩
theorem strV_small (k : RaceK) (s : Step) : (strV k s).field.length ≤ 1048576 ∧ ∀ e ∈ (strV k s).field, e.card.punches.length ≤ 1048576 := by
  by_cases h : strB k s = true
  · exact good_small (strV_good h)
  · unfold strV
    rw [if_neg h]
    simp
/-- Running steps: those that are possible, one after the other. -/
def runV : RaceK → List Step → RaceK
  | k, [] => k
  | k, s :: ss => runV (stepN k s) ss
def runN : RaceK → List Step → Nat
  | _, [] => 0
  | k, s :: ss => (if stepB k s = true then 1 else 0) + runN (stepN k s) ss
theorem runV_snoc : ∀ (ss : List Step) (k : RaceK) (s : Step), runV k (ss ++ [s]) = stepN (runV k ss) s
  | [], _, _ => rfl
  | t :: ss, k, s => by simp only [List.cons_append, runV]; exact runV_snoc ss _ s
theorem runN_snoc : ∀ (ss : List Step) (k : RaceK) (s : Step), runN k (ss ++ [s]) = runN k ss + (if stepB (runV k ss) s = true then 1 else 0)
  | [], k, s => by show (if stepB k s = true then 1 else 0) + 0 = 0 + (if stepB k s = true then 1 else 0); omega
  | t :: ss, k, s => by
    show (if stepB k t = true then 1 else 0) + runN (stepN k t) (ss ++ [s]) = (if stepB k t = true then 1 else 0) + runN (stepN k t) ss + (if stepB (runV (stepN k t) ss) s = true then 1 else 0)
    rw [runN_snoc ss _ s, Nat.add_assoc]
theorem runV_take {ss : List Step} {j : Nat} (h : j < ss.length) (k : RaceK) : runV k (ss.take (j + 1)) = stepN (runV k (ss.take j)) ss[j] := by
  rw [List.take_succ_eq_append_getElem h, runV_snoc]
theorem runN_take {ss : List Step} {j : Nat} (h : j < ss.length) (k : RaceK) : runN k (ss.take (j + 1)) = runN k (ss.take j) + (if stepB (runV k (ss.take j)) ss[j] = true then 1 else 0) := by
  rw [List.take_succ_eq_append_getElem h, runN_snoc]
theorem runV_good {k : RaceK} (g : GoodRace k) (ss : List Step) : GoodRace (runV k ss) := by
  induction ss generalizing k with
  | nil => exact g
  | cons s ss ih => exact ih (stepN_good g)
theorem runN_le (ss : List Step) : ∀ k, runN k ss ≤ ss.length := by
  induction ss with
  | nil => intro k; simp [runN]
  | cons s ss ih => intro k; have := ih (stepN k s); simp only [runN, List.length_cons]; split <;> omega
noncomputable def rrB (k : RaceK) (ss : List Step) : Bool := goodRace k && decide (ss.length ≤ 30)
noncomputable def rrV (k : RaceK) (ss : List Step) : RaceK := if rrB k ss = true then runV k ss else ⟨0, false, []⟩
noncomputable def rrN (k : RaceK) (ss : List Step) : Int := if rrB k ss = true then (runN k ss : Int) else 0
theorem rrV_small (k : RaceK) (ss : List Step) : (rrV k ss).field.length ≤ 1048576 ∧ ∀ e ∈ (rrV k ss).field, e.card.punches.length ≤ 1048576 := by
  by_cases h : rrB k ss = true
  · unfold rrV
    rw [if_pos h]
    simp only [rrB, Bool.and_eq_true] at h
    exact good_small (runV_good (goodRace_iff.1 h.1) ss)
  · unfold rrV
    rw [if_neg h]
    simp
end Go.Proofs.Ytfmgnbkneccekaa
