/- A race: its cells, what it means, when it is valid. No condition. -/
import Derived.Test.YtfmgnbkneccekaaEnM
import Derived.Test.YtfmgnbkneccekaaCdB
namespace Go.Proofs.Ytfmgnbkneccekaa
open Go Go.RowKit

structure RaceK where
  clock : Int
  closed : Bool
  field : List EntK
structure Race where
  clock : Int
  closed : Bool
  a : Option Addr
  n : Nat
  c : Nat
  zs : List Ent
def Race.k (p : Race) : RaceK := ⟨p.clock, p.closed, p.zs.map Ent.k⟩
abbrev Race.sv (p : Race) : Value := .slice p.a p.n p.c
def Race.lst (p : Race) : List Value := [.int .i64 p.clock, .bool p.closed, .slice p.a p.n p.c]
theorem Race.lst_len (p : Race) : p.lst.length = 3 := rfl
abbrev Race.val (p : Race) : Value := .agg p.lst.toArray
theorem Race.one (p : Race) : ∀ u ∈ p.lst, u.oneCell' = true := by simp [Race.lst, Value.oneCell']
def Race.In (w : World) (p : Race) : Prop := EntS w p.sv p.zs
theorem Race.In.below {w w' : World} {p : Race} (h : p.In w) (hb : Below w.heap.size w w') : p.In w' := EntS.below h hb
theorem Race.In.len {w : World} {p : Race} (h : p.In w) : p.n = p.zs.length := by
  obtain ⟨⟨A, c, hv, _⟩, _⟩ := h
  simp only [Value.slice.injEq] at hv
  exact hv.2.1
theorem Race.rangeNew (w : World) (p : Race) (t : TypeId) : (w.alloc (.cells #[.int .i64 p.clock, .bool p.closed, .slice p.a p.n p.c] t)).rangeAt w.heap.size 0 p.lst := rangeAt_new w p.lst t
theorem Race.cells {w : World} {b off : Nat} {p : Race} (h : w.rangeAt b off p.lst) : w.cell? ⟨b, off, none⟩ = some (.int .i64 p.clock) ∧ w.cell? ⟨b, off + 1, none⟩ = some (.bool p.closed) ∧ w.cell? ⟨b, off + 2, none⟩ = some (.slice p.a p.n p.c) := ⟨h 0 _ rfl, h 1 _ rfl, h 2 _ rfl⟩
theorem Race.cellsNew (w : World) (p : Race) (t : TypeId) : ∀ s : After (w.alloc (.cells #[.int .i64 p.clock, .bool p.closed, .slice p.a p.n p.c] t)), s.w'.cell? ⟨w.heap.size, 0, none⟩ = some (.int .i64 p.clock) ∧ s.w'.cell? ⟨w.heap.size, 1, none⟩ = some (.bool p.closed) ∧ s.w'.cell? ⟨w.heap.size, 2, none⟩ = some (.slice p.a p.n p.c) := by
  intro s
  obtain ⟨h0, h1, h2⟩ := Race.cells (rangeAt_below (Race.rangeNew w p t) s.hb)
  simp only [Nat.zero_add] at h1 h2
  exact ⟨h0, h1, h2⟩
theorem stRaceLaws : St Try.prog 32 3 := ⟨⟨_, Try.underlying32⟩, by kernel_rfl⟩
theorem stRaceImpl : St Try.prog 24 3 := ⟨⟨_, Try.underlying24⟩, by kernel_rfl⟩
theorem Race.loadImpl {w : World} {ops : Array Oper} {rest : List Oper} {o : Oper} {a : Act} {Q : Exit → Act → World → Prop} (hgd : o.guard = none) (x : Operand) (ho : o.op = .load 24 x) (b off : Nat) (hx : a.eval x = .pointer (some ⟨b, off, none⟩)) (p : Race) (hc : w.rangeAt b off p.lst)
    (h : wpList Try.prog ops Q rest (a.put o.dst (.agg #[.int .i64 p.clock, .bool p.closed, .slice p.a p.n p.c])) w) : wpList Try.prog ops Q (o :: rest) a w := stRaceImpl.load hgd x ho b off hx p.lst rfl hc h
theorem Race.loadLaws {w : World} {ops : Array Oper} {rest : List Oper} {o : Oper} {a : Act} {Q : Exit → Act → World → Prop} (hgd : o.guard = none) (x : Operand) (ho : o.op = .load 32 x) (b off : Nat) (hx : a.eval x = .pointer (some ⟨b, off, none⟩)) (p : Race) (hc : w.rangeAt b off p.lst)
    (h : wpList Try.prog ops Q rest (a.put o.dst (.agg #[.int .i64 p.clock, .bool p.closed, .slice p.a p.n p.c])) w) : wpList Try.prog ops Q (o :: rest) a w := stRaceLaws.load hgd x ho b off hx p.lst rfl hc h
/-- The latest time of a card. -/
def latestC (k : CdK) : Int := k.punches.foldl (fun a p => max a p.time) (max k.start k.finish)
/-- Whether an entrant is valid. -/
def runningOk (clock : Int) (i : Nat) (e : EntK) : Bool :=
  cardOk e.card && e.card.number == (i : Int) + 1 && decide (latestC e.card ≤ clock) && ((e.card.finish != -1) == (e.state == 2))
def entOk (clock : Int) (closed : Bool) (i : Nat) (e : EntK) : Bool :=
  if e.state = 0 then zeroCd e.card && !closed
  else if e.state = 4 then zeroCd e.card && closed
  else if e.state = 1 then !closed && runningOk clock i e
  else if e.state = 2 ∨ e.state = 3 then runningOk clock i e
  else false
def GoodRace (k : RaceK) : Prop := inB k.clock 0 36000 = true ∧ inB (k.field.length : Int) 1 8 = true ∧ ∀ i (h : i < k.field.length), entOk k.clock k.closed i k.field[i] = true
noncomputable def goodRace (k : RaceK) : Bool := @decide (GoodRace k) (Classical.propDecidable _)
theorem goodRace_iff {k : RaceK} : goodRace k = true ↔ GoodRace k := by simp [goodRace]
theorem goodRace_true {k : RaceK} (h : GoodRace k) : goodRace k = true := goodRace_iff.2 h
theorem goodRace_false {k : RaceK} (h : ¬ GoodRace k) : goodRace k = false := by simp [goodRace, h]
theorem foldl_max_le (ps : List Punch) : ∀ (a c : Int), ps.foldl (fun a p => max a p.time) a ≤ c ↔ a ≤ c ∧ ∀ p ∈ ps, p.time ≤ c := by
  induction ps with
  | nil => intro a c; simp
  | cons p ps ih =>
    intro a c
    rw [List.foldl_cons, ih, Int.max_le, and_assoc]
    simp only [List.mem_cons, forall_eq_or_imp]
theorem latest_le {k : CdK} {c : Int} : latestC k ≤ c ↔ (k.start ≤ c ∧ k.finish ≤ c) ∧ ∀ p ∈ k.punches, p.time ≤ c := by
  unfold latestC
  rw [foldl_max_le, Int.max_le]
theorem latest_any {k : CdK} {c : Int} : decide (latestC k ≤ c) = (decide (k.start ≤ c) && decide (k.finish ≤ c) && !(k.punches.any fun p => decide (c < p.time))) := by
  rw [Bool.eq_iff_iff]
  simp only [decide_eq_true_eq, latest_le, Bool.and_eq_true, Bool.not_eq_true', List.any_eq_false]
  refine and_congr_right fun _ => ⟨fun h p hp => ?_, fun h p hp => ?_⟩
  · have := h p hp; omega
  · have := h p hp; omega
theorem finish_sign {k : CdK} (h : cardOk k = true) : decide (0 ≤ k.finish) = (k.finish != -1) := by
  have h1 := cardOk_finish h
  have h2 := cardOk_start h
  rw [Bool.eq_iff_iff]
  simp only [decide_eq_true_eq, bne_iff_ne, ne_eq]
  omega
end Go.Proofs.Ytfmgnbkneccekaa
