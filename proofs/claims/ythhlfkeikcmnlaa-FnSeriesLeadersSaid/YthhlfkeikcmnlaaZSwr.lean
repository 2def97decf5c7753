/- The library's exchanges of ranges of integers. No condition beyond the row's length. -/
import Derived.Test.YthhlfkeikcmnlaaZSortI
import Derived.Test.YthhlfkeikcmnlaaZLibSqz
import Derived.Test.YthhlfkeikcmnlaaZIntSIntE
namespace Go.Proofs.Ythhlfkeikcmnlaa
open Go Go.RowKit

theorem set_mid {α : Type} {X : List α} {y z : α} {Y : List α} {k : Nat} (h : k = X.length) : (X ++ y :: Y).set k z = X ++ z :: Y := by
  subst h
  rw [List.set_append_right _ _ (Nat.le_refl _)]
  simp
/-- Two ranges in the midst of their exchange. -/
def swapMid (P U M V T : List Int) (i : Nat) : List Int := P ++ (V.take i ++ U.drop i ++ (M ++ (U.take i ++ V.drop i ++ T)))
theorem swapMid_zero (P U M V T : List Int) : swapMid P U M V T 0 = P ++ (U ++ (M ++ (V ++ T))) := by simp [swapMid]
theorem swapMid_all {P U M V T : List Int} (h : U.length = V.length) : swapMid P U M V T U.length = P ++ (V ++ (M ++ (U ++ T))) := by
  unfold swapMid
  rw [List.take_of_length_le (Nat.le_refl U.length), List.drop_of_length_le (Nat.le_refl U.length), List.take_of_length_le (by omega : V.length ≤ U.length), List.drop_of_length_le (by omega : V.length ≤ U.length)]
  simp only [List.append_nil]
theorem swapMid_len {P U M V T : List Int} (h : U.length = V.length) {i : Nat} (hi : i ≤ U.length) : (swapMid P U M V T i).length = P.length + U.length + M.length + V.length + T.length := by simp [swapMid]; omega
theorem swapMid_form {P U M V T : List Int} {i : Nat} (h : i < U.length) (h' : i < V.length) : swapMid P U M V T i = (P ++ V.take i) ++ U[i] :: (U.drop (i + 1) ++ (M ++ (U.take i ++ (V[i] :: V.drop (i + 1) ++ T)))) := by
  unfold swapMid
  rw [List.drop_eq_getElem_cons h, List.drop_eq_getElem_cons h']
  simp only [List.append_assoc, List.cons_append]
theorem swapMid_at1 {P U M V T : List Int} {i : Nat} (h : i < U.length) (h' : i < V.length) (hl : P.length + i < (swapMid P U M V T i).length) : (swapMid P U M V T i)[P.length + i] = U[i] := by
  simp only [swapMid_form h h']
  rw [List.getElem_append_right (by simp; omega)]
  have e : P.length + i - (P ++ V.take i).length = 0 := by simp; omega
  simp only [e]
  rfl
theorem swapMid_form2 {P U M V T : List Int} {i : Nat} (h : i < U.length) (h' : i < V.length) (x : Int) : (P ++ V.take i) ++ x :: (U.drop (i + 1) ++ (M ++ (U.take i ++ (V[i] :: V.drop (i + 1) ++ T)))) = (P ++ V.take i ++ x :: (U.drop (i + 1) ++ (M ++ U.take i))) ++ V[i] :: (V.drop (i + 1) ++ T) := by simp only [List.append_assoc, List.cons_append]
theorem swapMid_at2 {P U M V T : List Int} {i : Nat} (h : i < U.length) (h' : i < V.length) (hl : P.length + U.length + M.length + i < (swapMid P U M V T i).length) : (swapMid P U M V T i)[P.length + U.length + M.length + i] = V[i] := by
  simp only [swapMid_form h h', swapMid_form2 h h']
  rw [List.getElem_append_right (by simp; omega)]
  have e : P.length + U.length + M.length + i - (P ++ V.take i ++ U[i] :: (U.drop (i + 1) ++ (M ++ U.take i))).length = 0 := by simp; omega
  simp only [e]
  rfl
theorem swapMid_step {P U M V T : List Int} {i : Nat} (h : i < U.length) (h' : i < V.length) : ((swapMid P U M V T i).set (P.length + i) V[i]).set (P.length + U.length + M.length + i) U[i] = swapMid P U M V T (i + 1) := by
  rw [swapMid_form h h', set_mid (by simp; omega), swapMid_form2 h h', set_mid (by simp; omega)]
  unfold swapMid
  rw [List.take_succ_eq_append_getElem h, List.take_succ_eq_append_getElem h']
  simp only [List.append_assoc, List.cons_append, List.nil_append]

set_option maxHeartbeats 2000000 in
theorem swapRange_any (base g n cap a b k : Nat) (P U M V T : List Int) (f : Value) (w : World) (hUV : U.length = V.length) (hrow : Row base 3 1 w (.slice (some ⟨g, 0, none⟩) n cap) ((P ++ (U ++ (M ++ (V ++ T)))).map ints)) (hn : n ≤ 1048577) (ha : a = P.length) (hb : b = P.length + U.length + M.length) (hk : k = U.length) (hc : cap ≤ 9223372036854775807) :
    Calls Try.prog 131 #[.slice (some ⟨g, 0, none⟩) n cap, .int .i64 a, .int .i64 b, .int .i64 k, f] w fun e w' => e = .returned (.tuple #[]) ∧ Row base 3 1 w' (.slice (some ⟨g, 0, none⟩) n cap) ((P ++ (V ++ (M ++ (U ++ T)))).map ints) ∧ w.grownBy w' (some g) := by
  have hnl := hrow.none_len
  rw [List.length_map, ← swapMid_zero, swapMid_len hUV (Nat.zero_le _)] at hnl
  have hcl : n ≤ cap := by
    obtain ⟨_, _, h1, h2, _⟩ := hrow.parts
    simp only [Value.slice.injEq] at h1
    omega
  rw [← swapMid_zero] at hrow
  rw [← swapMid_all hUV, ← hk]
  have HNL := Lib.hid (show P.length + U.length + M.length + V.length + T.length = n from hnl.symm)
  have HA := Lib.hid ha
  have HB := Lib.hid hb
  have HK := Lib.hid hk
  have HUV := Lib.hid hUV
  have hak : a + k ≤ n := by omega
  have hbk : b + k ≤ n := by omega
  have hab : a + k ≤ b := by omega
  clear ha hb hk hUV hnl
  go_enter Try.func131, Try.ntmps131
  go_wp2
  go_loopw [10] (fun i wr => ∃ j : Nat, j ≤ k ∧ i = .int .i64 j ∧ Row base 3 1 wr (.slice (some ⟨g, 0, none⟩) n cap) ((swapMid P U M V T j).map ints) ∧ w.grownBy wr (some g))
    (fun i _ => k - (intOf i).toNat)
  case atStart => exact ⟨0, Nat.zero_le _, rfl, hrow, World.grownBy.refl _ _⟩
  case round =>
    obtain ⟨j, hjk, rfl, hrs, hgs⟩ := hrel
    by_cases hlt : j < k
    · have hUV := HUV.out
      have hjU : j < U.length := by have := HK.out; omega
      have hjV : j < V.length := by omega
      have ha := HA.out
      have hb := HB.out
      have hnl := HNL.out
      have hl := swapMid_len (P := P) (M := M) (T := T) hUV (i := j) (by omega)
      have i1 : a + j < (swapMid P U M V T j).length := by omega
      have i2 : b + j < (swapMid P U M V T j).length := by omega
      have he1 := row_int hrs i1
      have he2 := row_int hrs i2
      have HST := Lib.hid (swapMid_step (P := P) (M := M) (T := T) hjU hjV)
      have e1 : (swapMid P U M V T j)[a + j] = U[j] := by subst ha; exact swapMid_at1 hjU hjV i1
      have e2 : (swapMid P U M V T j)[b + j] = V[j] := by subst hb; exact swapMid_at2 hjU hjV i2
      rw [e1] at he1
      rw [e2] at he2
      rw [← hb, ← ha] at HST
      obtain ⟨x, hx⟩ : ∃ x, x = U[j] := ⟨_, rfl⟩
      obtain ⟨y, hy⟩ : ∃ y, y = V[j] := ⟨_, rfl⟩
      rw [← hx] at he1 HST
      rw [← hy] at he2 HST
      have hf1 := hrs.frozen (a + j)
      have hf2 := hrs.frozen (b + j)
      have hn1 : (a : Int) + (j : Int) < (n : Int) := by omega
      have hn2 : (b : Int) + (j : Int) < (n : Int) := by omega
      have hw1 : IntKind.i64.wrap ((a : Int) + (j : Int)) = (a : Int) + (j : Int) := by rw [IntKind.wrap_i64]; omega
      have hw2 : IntKind.i64.wrap ((b : Int) + (j : Int)) = (b : Int) + (j : Int) := by rw [IntKind.wrap_i64]; omega
      have HI1 := Lib.hid i1
      have HI2 := Lib.hid i2
      clear hx hy e1 e2 i1 i2 hl hrow ha hb hnl hUV hjU hjV
      go_wp2
      go_region
      obtain ⟨r1, g1⟩ := row_int_set hrs (k := a + j) (by simpa using HI1.out) y
      obtain ⟨r2, g2⟩ := row_int_set r1 (k := b + j) (by simpa using HI2.out) x
      have r3 := r2.drew
      have g3 : w.grownBy ((wr.setCell ⟨g, a + j, none⟩ (.int .i64 y)).setCell ⟨g, b + j, none⟩ (.int .i64 x)).drew (some g) := grown_trans hgs (grown_trans g1 ⟨g2.os, g2.tape, g2.output, g2.size, g2.block⟩)
      rw [← List.map_set, ← List.map_set, HST.out] at r3
      clear r1 g1 r2 g2 hrs hgs he1 he2 hf1 hf2 hw1 hw2
      go_wp2
      go_roundw
      case rel => exact ⟨j + 1, by omega, by go_num, r3, g3⟩
      case measure => simp [intOf]; omega
    · obtain rfl : j = k := by omega
      go_wp2
      go_end0
      exact ⟨rfl, hrs, hgs⟩

set_option maxHeartbeats 2000000 in
theorem rotate_any (base g n cap a m b : Nat) (P U V T : List Int) (f : Value) (w : World) (hrow : Row base 3 1 w (.slice (some ⟨g, 0, none⟩) n cap) ((P ++ (U ++ (V ++ T))).map ints)) (hn : n ≤ 1048577) (ha : a = P.length) (hm : m = a + U.length) (hb : b = m + V.length) (hU : 0 < U.length) (hV : 0 < V.length) (hc : cap ≤ 9223372036854775807) :
    Calls Try.prog 123 #[.slice (some ⟨g, 0, none⟩) n cap, .int .i64 a, .int .i64 m, .int .i64 b, f] w fun e w' => e = .returned (.tuple #[]) ∧ Row base 3 1 w' (.slice (some ⟨g, 0, none⟩) n cap) ((P ++ (V ++ (U ++ T))).map ints) ∧ w.grownBy w' (some g) := by
  have hnl := hrow.none_len
  rw [List.length_map] at hnl
  simp only [List.length_append] at hnl
  obtain ⟨G, hG⟩ : ∃ G, G = P ++ (V ++ (U ++ T)) := ⟨_, rfl⟩
  rw [← hG]
  have e1 : (m : Int) - (a : Int) = (U.length : Int) := by omega
  have e2 : (b : Int) - (m : Int) = (V.length : Int) := by omega
  have HS0 := Lib.hid (show m = P.length + U.length ∧ m + V.length + T.length = n by omega)
  obtain ⟨iu, hiu⟩ : ∃ i, i = U.length := ⟨_, rfl⟩
  obtain ⟨iv, hiv⟩ : ∃ i, i = V.length := ⟨_, rfl⟩
  rw [← hiu] at e1
  rw [← hiv] at e2
  have HIU := Lib.hid hiu
  have HIV := Lib.hid hiv
  have hin : iu ≤ n := by omega
  have hivn : iv ≤ n := by omega
  clear ha hm hb hnl hiu hiv
  go_enter Try.func123, Try.ntmps123
  go_wp2
  clear e1 e2
  go_loopw [10, 11] (fun i j wr => ∃ (P U V T : List Int), i = .int .i64 U.length ∧ j = .int .i64 V.length ∧ 0 < U.length ∧ 0 < V.length ∧ m = P.length + U.length ∧ m + V.length + T.length = n ∧ Hid (G = P ++ (V ++ (U ++ T))) ∧ Row base 3 1 wr (.slice (some ⟨g, 0, none⟩) n cap) ((P ++ (U ++ (V ++ T))).map ints) ∧ w.grownBy wr (some g))
    (fun i j _ => (intOf i).toNat + (intOf j).toNat)
  case atStart => exact ⟨P, U, V, T, by rw [HIU.out], by rw [HIV.out], hU, hV, HS0.out.1, HS0.out.2, hG, hrow, World.grownBy.refl _ _⟩
  case round =>
    clear HS0 hG hrow hU hV HIU HIV
    obtain ⟨P, U, V, T, rfl, rfl, hU, hV, hm, hn2, HG, hrow, hgr⟩ := hrel
    obtain ⟨i, hi⟩ : ∃ i, U.length = i := ⟨_, rfl⟩
    obtain ⟨j, hj⟩ : ∃ j, V.length = j := ⟨_, rfl⟩
    obtain ⟨p, hp⟩ : ∃ p, P.length = p := ⟨_, rfl⟩
    rw [hi] at hU hm ⊢
    rw [hj] at hV hn2 ⊢
    rw [hp] at hm
    have e1 : (m : Int) - (i : Int) = (p : Int) := by omega
    have HP := Lib.hid hp
    have hpn : p ≤ n ∧ m ≤ n := by omega
    obtain ⟨hpn, hmn⟩ := hpn
    rcases Nat.lt_trichotomy i j with hlt | heq | hgt
    · obtain ⟨q, hq⟩ : ∃ q, m + j - i = q := ⟨_, rfl⟩
      have e2 : (m : Int) + (j : Int) - (i : Int) = (q : Int) := by omega
      obtain ⟨V1, V2, rfl, hV1, hV2⟩ : ∃ V1 V2, V = V1 ++ V2 ∧ V1.length = j - i ∧ V2.length = i := ⟨V.take (j - i), V.drop (j - i), (List.take_append_drop _ _).symm, by simp; omega, by simp; omega⟩
      rw [List.append_assoc] at hrow
      have HS := Lib.hid (swapRange_any base g n cap p q i P U V1 V2 T f wr (by omega) hrow hn hp.symm (by omega) hi.symm hc)
      have hqn : q ≤ n := by omega
      have HF := Lib.hid (show m = P.length + V2.length ∧ 0 < V2.length ∧ 0 < V1.length ∧ m + V1.length + (U ++ T).length = n by simp; omega)
      have HV1 := Lib.hid hV1
      have HV2 := Lib.hid hV2
      have HG' := Lib.hid (show G = P ++ (V1 ++ (V2 ++ (U ++ T))) by rw [HG.out]; simp)
      have hne : ((i : Int) != (j : Int)) = true := by simp; omega
      clear hi hj hp hV1 hV2 hm hn2 hrow hq
      go_wp2_with (go_at_call 131; refine HS.out.mono ?_; rintro e w1 ⟨rfl, row1, hg1⟩)
      go_roundw
      case rel => exact ⟨P, V2, V1, U ++ T, by rw [HV2.out], by rw [HV1.out]; congr 1; omega, HF.out.2.1, HF.out.2.2.1, HF.out.1, HF.out.2.2.2, HG'.out, row1, grown_trans hgr hg1⟩
      case measure => simp [intOf]; omega
    · subst heq
      have HS := Lib.hid (swapRange_any base g n cap p m i P U [] V T f wr (by omega) hrow hn hp.symm (by simp; omega) hi.symm hc)
      clear hi hj hp hm hn2 hrow
      go_wp2_with (go_at_call 131; refine HS.out.mono ?_; rintro e w1 ⟨rfl, row1, hg1⟩)
      go_end0
      exact ⟨rfl, by rw [HG.out]; exact row1, grown_trans hgr hg1⟩
    · obtain ⟨U1, U2, rfl, hU1, hU2⟩ : ∃ U1 U2, U = U1 ++ U2 ∧ U1.length = j ∧ U2.length = i - j := ⟨U.take j, U.drop j, (List.take_append_drop _ _).symm, by simp; omega, by simp; omega⟩
      rw [List.append_assoc] at hrow
      have HS := Lib.hid (swapRange_any base g n cap p m j P U1 U2 V T f wr (by omega) hrow hn hp.symm (by omega) hU1.symm hc)
      have HF := Lib.hid (show m = (P ++ V).length + U2.length ∧ 0 < U2.length ∧ 0 < U1.length ∧ m + U1.length + T.length = n by simp; omega)
      have HU1 := Lib.hid hU1
      have HU2 := Lib.hid hU2
      have HG' := Lib.hid (show G = (P ++ V) ++ (U1 ++ (U2 ++ T)) by rw [HG.out]; simp)
      have hne : ((i : Int) != (j : Int)) = true := by simp; omega
      clear hi hj hp hU1 hU2 hm hn2 hrow
      go_wp2_with (go_at_call 131; refine HS.out.mono ?_; rintro e w1 ⟨rfl, row1, hg1⟩)
      go_roundw
      case rel => exact ⟨P ++ V, U2, U1, T, by rw [HU2.out]; congr 1; omega, by rw [HU1.out], HF.out.2.1, HF.out.2.2.1, HF.out.1, HF.out.2.2.2, HG'.out, by rw [List.append_assoc]; exact row1, grown_trans hgr hg1⟩
      case measure => simp [intOf]; omega
end Go.Proofs.Ythhlfkeikcmnlaa
