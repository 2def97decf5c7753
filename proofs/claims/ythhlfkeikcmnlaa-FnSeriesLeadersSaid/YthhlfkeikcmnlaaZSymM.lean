/- The library's merge of two runs of integers in place. Condition: the comparison is an order up to ties, the runs ascend one behind the other. -/
import Derived.Test.YthhlfkeikcmnlaaZSwr
namespace Go.Proofs.Ythhlfkeikcmnlaa
open Go Go.RowKit

section
variable {cf : Int → Int → Int}
/-- One before a run, put to its place. -/
theorem srt_one (C : Cmp cf) {x : Int} {B : List Int} {i : Nat} (hB : Srt cf B) (hx : ∀ b ∈ B, x < b) (hi : i ≤ B.length) (h1 : ∀ hl : i < B.length, ¬ cf B[i] x < 0) (h2 : ∀ h0 : 0 < i, cf (B[i - 1]'(by omega)) x < 0) :
    Srt cf (B.take i ++ x :: B.drop i) ∧ (B.take i ++ x :: B.drop i).Perm ([x] ++ B) := by
  have c1 := cut_ok C (A := [x]) (by simp) hB (by simpa using hx) (i := 0) (j := i) (by simp) hi (fun h => absurd h (by omega)) (fun h0 _ => h2 h0)
  have c2 := cut_ok C (A := [x]) (by simp) hB (by simpa using hx) (i := 1) (j := i) (by simp) hi (fun _ hl => h1 hl) (fun _ h => absurd h (by simp))
  refine ⟨?_, ?_⟩
  · rw [Srt, List.pairwise_append, List.pairwise_cons]
    exact ⟨srt_take hB i, ⟨fun y hy => c2 x (by simp) y (by simpa using hy), srt_drop hB i⟩, fun y hy z hz => c1 y (by simpa using hy) z (by simpa using hz)⟩
  · refine List.perm_middle.trans ?_
    rw [List.take_append_drop]
    exact List.Perm.refl _
/-- One behind a run, put to its place. -/
theorem srt_last (C : Cmp cf) {y : Int} {A : List Int} {i : Nat} (hA : Srt cf A) (hy : ∀ a ∈ A, a < y) (hi : i ≤ A.length) (h1 : ∀ h0 : 0 < i, ¬ cf y (A[i - 1]'(by omega)) < 0) (h2 : ∀ hl : i < A.length, cf y A[i] < 0) :
    Srt cf (A.take i ++ y :: A.drop i) ∧ (A.take i ++ y :: A.drop i).Perm (A ++ [y]) := by
  have c1 := cut_ok C (B := [y]) hA (by simp) (by simpa using hy) (i := i) (j := 0) hi (by simp) (fun h0 _ => h1 h0) (fun h => absurd h (by omega))
  have c2 := cut_ok C (B := [y]) hA (by simp) (by simpa using hy) (i := i) (j := 1) hi (by simp) (fun _ h => absurd h (by simp)) (fun _ hl => h2 hl)
  refine ⟨?_, ?_⟩
  · rw [Srt, List.pairwise_append, List.pairwise_cons]
    exact ⟨srt_take hA i, ⟨fun z hz => c2 y (by simp) z (by simpa using hz), srt_drop hA i⟩, fun z hz u hu => c1 z (by simpa using hz) u (by rcases List.mem_cons.1 hu with rfl | hu <;> simp [*])⟩
  · refine List.perm_middle.trans ?_
    rw [List.take_append_drop]
    exact List.perm_append_comm (l₁ := [y]) (l₂ := A)
end
theorem at2_ {P A X : List Int} {k r : Nat} (hr : r < A.length) (hk : k = P.length + r) (hl : k < (P ++ (A ++ X)).length) : (P ++ (A ++ X))[k] = A[r] := by
  subst hk
  rw [List.getElem_append_right (by omega), List.getElem_append_left (by omega)]
  congr 1
  omega
theorem at3_ {P A B T : List Int} {k r : Nat} (hr : r < B.length) (hk : k = P.length + A.length + r) (hl : k < (P ++ (A ++ (B ++ T))).length) : (P ++ (A ++ (B ++ T)))[k] = B[r] := by
  subst hk
  rw [List.getElem_append_right (by omega), List.getElem_append_right (by omega), List.getElem_append_left (by omega)]
  congr 1
  omega
/-- One number on its way through a run. -/
def wayIn (P B T : List Int) (x : Int) (q : Nat) : List Int := P ++ (B.take q ++ x :: (B.drop q ++ T))
theorem wayIn_len {P B T : List Int} {x : Int} {q : Nat} (h : q ≤ B.length) : (wayIn P B T x q).length = P.length + B.length + 1 + T.length := by simp [wayIn]; omega
theorem wayIn_at {P B T : List Int} {x : Int} {q k : Nat} (h : q ≤ B.length) (hk : k = P.length + q) (hl : k < (wayIn P B T x q).length) : (wayIn P B T x q)[k] = x := by
  subst hk
  simp only [wayIn]
  rw [List.getElem_append_right (by omega), List.getElem_append_right (by simp; omega)]
  have e : P.length + q - P.length - (B.take q).length = 0 := by simp; omega
  simp only [e]
  rfl
theorem wayIn_after {P B T : List Int} {x : Int} {q k : Nat} (h : q < B.length) (hk : k = P.length + q + 1) (hl : k < (wayIn P B T x q).length) : (wayIn P B T x q)[k] = B[q] := by
  subst hk
  simp only [wayIn]
  rw [List.getElem_append_right (by omega), List.getElem_append_right (by simp; omega)]
  have e : P.length + q + 1 - P.length - (B.take q).length = 0 + 1 := by simp; omega
  simp only [e, List.getElem_cons_succ]
  rw [List.getElem_append_left (by simp; omega), List.getElem_drop]
  simp
theorem wayIn_before {P B T : List Int} {x : Int} {q k : Nat} (h0 : 0 < q) (h : q ≤ B.length) (hk : k = P.length + (q - 1)) (hl : k < (wayIn P B T x q).length) : (wayIn P B T x q)[k] = B[q - 1]'(by omega) := by
  subst hk
  simp only [wayIn]
  rw [List.getElem_append_right (by omega), List.getElem_append_left (by simp; omega), List.getElem_take]
  congr 1
  omega
theorem wayIn_up {P B T : List Int} {x : Int} {q k : Nat} (h : q < B.length) (hk : k = P.length + q) : ((wayIn P B T x q).set k B[q]).set (k + 1) x = wayIn P B T x (q + 1) := by
  have e1 : wayIn P B T x q = (P ++ B.take q) ++ x :: (B[q] :: (B.drop (q + 1) ++ T)) := by
    unfold wayIn
    rw [List.drop_eq_getElem_cons h]
    simp only [List.append_assoc, List.cons_append]
  have e2 : (P ++ B.take q) ++ B[q] :: (B[q] :: (B.drop (q + 1) ++ T)) = (P ++ B.take q ++ [B[q]]) ++ B[q] :: (B.drop (q + 1) ++ T) := by simp only [List.append_assoc, List.cons_append, List.nil_append]
  rw [e1, set_mid (by simp; omega), e2, set_mid (by simp; omega)]
  unfold wayIn
  rw [List.take_succ_eq_append_getElem h]
  simp only [List.append_assoc, List.cons_append, List.nil_append]
theorem wayIn_down {P B T : List Int} {x : Int} {q k : Nat} (h : q < B.length) (hk : k = P.length + q) : ((wayIn P B T x (q + 1)).set (k + 1) B[q]).set k x = wayIn P B T x q := by
  have e1 : wayIn P B T x (q + 1) = (P ++ B.take q ++ [B[q]]) ++ x :: (B.drop (q + 1) ++ T) := by
    unfold wayIn
    rw [List.take_succ_eq_append_getElem h]
    simp only [List.append_assoc, List.cons_append, List.nil_append]
  have e2 : (P ++ B.take q ++ [B[q]]) ++ B[q] :: (B.drop (q + 1) ++ T) = (P ++ B.take q) ++ B[q] :: (B[q] :: (B.drop (q + 1) ++ T)) := by simp only [List.append_assoc, List.cons_append, List.nil_append]
  rw [e1, set_mid (by simp; omega), e2, set_mid (by simp; omega)]
  unfold wayIn
  rw [List.drop_eq_getElem_cons h]
  simp only [List.append_assoc, List.cons_append]
end Go.Proofs.Ythhlfkeikcmnlaa
