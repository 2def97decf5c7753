/- Plain: what a valid card is. No condition. -/
import Derived.Test.YtojpklpfnmjikaaCd
namespace Go.Proofs.Ytojpklpfnmjikaa

def punchOk (fin last : Int) (p : Punch) : Bool := inB p.code 31 99 && inB p.time 0 36000 && decide (last ≤ p.time) && (fin == -1 || decide (p.time ≤ fin))
def punchesOk (fin : Int) : Int → List Punch → Bool
  | _, [] => true
  | last, p :: ps => punchOk fin last p && punchesOk fin p.time ps
def cardOk (k : CdK) : Bool := inB k.number 1 9999 && inB k.start 0 36000 && (k.finish == -1 || inB k.finish k.start 36000) && decide (k.punches.length ≤ 12) && punchesOk k.finish k.start k.punches
theorem punchesOk_drop (fin last : Int) (sp : List Punch) (k : Nat) (h : k < sp.length) : punchesOk fin last (sp.drop k) = (punchOk fin last sp[k] && punchesOk fin sp[k].time (sp.drop (k + 1))) := by
  rw [List.drop_eq_getElem_cons h]; rfl
def zeroCd (k : CdK) : Bool := k.number == 0 && k.start == 0 && k.finish == 0 && k.punches.length == 0
theorem cardOk_len {k : CdK} (h : cardOk k = true) : k.punches.length ≤ 12 := by
  simp only [cardOk, Bool.and_eq_true, decide_eq_true_eq] at h
  exact h.1.2
theorem cardOk_start {k : CdK} (h : cardOk k = true) : 0 ≤ k.start ∧ k.start ≤ 36000 := by
  simp only [cardOk, Bool.and_eq_true] at h
  exact inB_iff.1 h.1.1.1.2
theorem cardOk_finish {k : CdK} (h : cardOk k = true) : k.finish = -1 ∨ (k.start ≤ k.finish ∧ k.finish ≤ 36000) := by
  simp only [cardOk, Bool.and_eq_true, Bool.or_eq_true, beq_iff_eq] at h
  rcases h.1.1.2 with h | h
  · exact .inl h
  · exact .inr (inB_iff.1 h)
theorem punchesOk_at {fin : Int} : ∀ {last : Int} {sp : List Punch}, punchesOk fin last sp = true → ∀ p ∈ sp, inB p.code 31 99 = true ∧ inB p.time 0 36000 = true ∧ last ≤ p.time ∧ (fin = -1 ∨ p.time ≤ fin)
  | last, [], _, p, hp => absurd hp (by simp)
  | last, q :: ps, h, p, hp => by
    simp only [punchesOk, Bool.and_eq_true, punchOk, decide_eq_true_eq, Bool.or_eq_true, beq_iff_eq] at h
    obtain ⟨⟨⟨⟨h1, h2⟩, h3⟩, h4⟩, h5⟩ := h
    rcases List.mem_cons.1 hp with rfl | hp
    · exact ⟨h1, h2, h3, h4⟩
    · obtain ⟨a, b, c, d⟩ := punchesOk_at h5 p hp
      exact ⟨a, b, by omega, d⟩
theorem cardOk_punch {k : CdK} (h : cardOk k = true) : ∀ p ∈ k.punches, inB p.code 31 99 = true ∧ inB p.time 0 36000 = true ∧ k.start ≤ p.time ∧ (k.finish = -1 ∨ p.time ≤ k.finish) := by
  simp only [cardOk, Bool.and_eq_true] at h
  exact punchesOk_at h.2
end Go.Proofs.Ytojpklpfnmjikaa
