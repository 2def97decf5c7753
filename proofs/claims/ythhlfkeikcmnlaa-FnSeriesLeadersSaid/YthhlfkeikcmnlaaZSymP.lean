/- The library's merge of two runs of integers in place. Condition: the comparison is an order up to ties, the runs ascend one behind the other. -/
import Derived.Test.YthhlfkeikcmnlaaZSymO
import Derived.Deep.DeepCutAuto
namespace Go.Proofs.Ythhlfkeikcmnlaa
open Go Go.RowKit

/-- The search has shown that place u - 1 of the first run stays before its fellow of the second; that place r goes behind it. -/
def LoOk (cf : Int → Int → Int) (A B : List Int) (pp m a lo u : Nat) : Prop := ∀ _ : lo < u, ∃ (hb : pp - (u - 1) - m < B.length) (ha : u - 1 - a < A.length), 0 ≤ cf B[pp - (u - 1) - m] A[u - 1 - a]
def HiOk (cf : Int → Int → Int) (A B : List Int) (pp m a hi r : Nat) : Prop := ∀ _ : r < hi, ∃ (hb : pp - r - m < B.length) (ha : r - a < A.length), cf B[pp - r - m] A[r - a] < 0

set_option maxRecDepth 100000 in
set_option maxHeartbeats 16000000 in
theorem symMerge_73 (cap0 cap1 : Value) (cf : Int → Int → Int) (C : Cmp cf) (base g n cap : Nat) (hn : n ≤ 1048577) (hc : cap ≤ 9223372036854775807) : ∀ (d a m b : Nat) (P A B T : List Int) (w : World) (_ : A.length + B.length ≤ d) (hA : 0 < A.length) (hB : 0 < B.length)
    (hrow : Row base 3 1 w (.slice (some ⟨g, 0, none⟩) n cap) ((P ++ (A ++ (B ++ T))).map ints)) (ha : a = P.length) (hm : m = a + A.length) (hb : b = m + B.length) (hsA : Srt cf A) (hsB : Srt cf B) (hAB : ∀ x ∈ A, ∀ y ∈ B, x < y)
    (hf : ∀ W x y, x ∈ A → y ∈ B → w.grownBy W (some g) → Calls Try.prog 73 #[.int .i64 y, .int .i64 x, cap0, cap1] W fun e w' => e = .returned (.int .i64 (cf y x)) ∧ Below W.heap.size W w'),
    Calls Try.prog 108 #[.slice (some ⟨g, 0, none⟩) n cap, .int .i64 a, .int .i64 m, .int .i64 b, .func (.func 73) #[] #[cap0, cap1]] w (MergePost base g n cap cf P A B T w) := by
  intro d
  induction d with
  | zero => intro a m b P A B T w hd hA; exact absurd hd (by omega)
  | succ d ih =>
    intro a m b P A B T w hd hA hB hrow ha hm hb hsA hsB hAB hf
    by_cases hA1 : A.length = 1
    · obtain ⟨x, rfl⟩ := List.length_eq_one_iff.1 hA1
      exact mergeOne_73 cap0 cap1 cf C base g n cap a m b P x B T w hB hrow hn ha (by simpa using hm) hb hc hsB (fun y hy => hAB x (by simp) y hy) (fun W y hy hg => hf W x y (by simp) hy hg)
    by_cases hB1 : B.length = 1
    · obtain ⟨y, rfl⟩ := List.length_eq_one_iff.1 hB1
      exact mergeLast_73 cap0 cap1 cf C base g n cap a m b P A y T w (by omega) hrow hn ha hm (by simpa using hb) hc hsA (fun x hx => hAB x hx y (by simp)) (fun W x hx hg => hf W x y hx (by simp) hg)
    have IH := Lib.hid ih
    clear ih
    have hnl := hrow.none_len
    rw [List.length_map] at hnl
    simp only [List.length_append] at hnl
    obtain ⟨mid, hmid⟩ : ∃ mid, (a + b) / 2 = mid := ⟨_, rfl⟩
    obtain ⟨N, hN⟩ : ∃ N, mid + m = N := ⟨_, rfl⟩
    obtain ⟨lo, hi, hcase⟩ : ∃ lo hi, (mid < m ∧ N = lo + b ∧ hi = mid) ∨ (m ≤ mid ∧ lo = a ∧ hi = m) := by
      by_cases h : mid < m
      · exact ⟨N - b, mid, .inl ⟨h, by omega, rfl⟩⟩
      · exact ⟨a, m, .inr ⟨by omega, rfl, rfl⟩⟩
    have hlh : a ≤ lo ∧ lo ≤ hi ∧ hi ≤ m ∧ hi ≤ mid + (m - a) ∧ m + hi ≤ N ∧ N ≤ lo + b := by omega
    obtain ⟨hl1, hl2, hl3, hl4, hl5, hl6⟩ := hlh
    have q0 : ((m : Int) - (a : Int) == 1) = false := by rw [beq_eq_false_iff_ne]; omega
    have q1 : ((b : Int) - (m : Int) == 1) = false := by rw [beq_eq_false_iff_ne]; omega
    have q2 : ((a : Int) + (b : Int)) / 2 = (mid : Int) := by omega
    have q3 : (mid : Int) + (m : Int) = (N : Int) := by omega
    have hbn : b ≤ n := by omega
    have hNn : N ≤ 2 * n := by omega
    have hab : a < b := by omega
    have hpp1 : 1 ≤ N := by omega
    obtain ⟨pp, hpp⟩ : ∃ pp, N - 1 = pp := ⟨_, rfl⟩
    have q4 : (N : Int) - 1 = (pp : Int) := by omega
    have HNL := Lib.hid hnl
    have HA := Lib.hid ha
    have HM := Lib.hid hm
    have HB := Lib.hid hb
    have HMID := Lib.hid hmid
    have HN := Lib.hid hN
    have HPP := Lib.hid hpp
    have HD := Lib.hid hd
    have HCASE := Lib.hid hcase
    have HF := Lib.hid hf
    have hppn : pp ≤ 2 * n := by omega
    have HLH := Lib.hid (show lo ≤ hi ∧ hi ≤ m ∧ a ≤ lo from ⟨hl2, hl3, hl1⟩)
    have HAB := Lib.hid (show 2 ≤ A.length ∧ 2 ≤ B.length by omega)
    have hmn : m ≤ n := by omega
    have han : a ≤ n := by omega
    have hmidn : mid ≤ n := by omega
    have hlon : lo ≤ n := by omega
    have hhin : hi ≤ n := by omega
    clear hnl ha hm hb hmid hN hpp hf hd hA1 hB1 hA hB hcase hl1 hl2 hl3 hl4 hl5 hl6 hab
    have HGO := Lib.hid (show ∀ s : Nat, lo ≤ s → s ≤ hi → LoOk cf A B pp m a lo s → HiOk cf A B pp m a hi s →
        ∃ i j en : Nat, N = s + en ∧ s = a + i ∧ en = m + j ∧ i ≤ A.length ∧ j ≤ B.length ∧ mid = s + j ∧ ∀ x ∈ A.take i ++ B.take j, ∀ y ∈ A.drop i ++ B.drop j, ltR cf y x = false from by
      intro s h1 h2 h3 h4
      have := HA.out; have := HM.out; have := HB.out; have := HMID.out; have := HN.out; have := HPP.out; have hcase := HCASE.out; have hlh := HLH.out; have hab := HAB.out
      refine ⟨s - a, N - s - m, N - s, by omega, by omega, by omega, by omega, by omega, by omega, cut_ok C hsA hsB hAB (by omega) (by omega) (fun hi0 hjl => ?_) (fun hj0 hil => ?_)⟩
      · obtain ⟨hb, ha, h5⟩ := h3 (by omega)
        have e1 : pp - (s - 1) - m = N - s - m := by omega
        have e2 : s - 1 - a = s - a - 1 := by omega
        simp only [e1, e2] at h5
        omega
      · obtain ⟨hb, ha, h5⟩ := h4 (by omega)
        have e1 : pp - s - m = N - s - m - 1 := by omega
        simp only [e1] at h5
        exact h5)
    have HIDX := Lib.hid (show ∀ h : Nat, lo ≤ h → h < hi → ∃ z : Nat, pp - h = z ∧ (pp : Int) - (h : Int) = (z : Int) ∧ h - a < A.length ∧ pp - h - m < B.length ∧ h < (P ++ (A ++ (B ++ T))).length ∧ z < (P ++ (A ++ (B ++ T))).length ∧ h = P.length + (h - a) ∧ z = P.length + A.length + (pp - h - m) ∧ h < n ∧ z < n from by
      intro h h1 h2
      have hA := HA.out
      have hM := HM.out
      have hB := HB.out
      have hN := HN.out
      have hP := HPP.out
      have hnl := HNL.out
      have hlh := HLH.out
      have hab := HAB.out
      simp only [List.length_append]
      rcases HCASE.out with hcase | hcase
      · refine ⟨pp - h, rfl, ?_, ?_, ?_, ?_, ?_, ?_, ?_, ?_, ?_⟩ <;> omega
      · refine ⟨pp - h, rfl, ?_, ?_, ?_, ?_, ?_, ?_, ?_, ?_, ?_⟩ <;> omega)
    have q5 : mid < m → (N : Int) - (b : Int) = (lo : Int) := fun h => by have := HCASE.out; omega
    by_cases hmm : mid < m
    · have q5 := q5 hmm
      have HE := Lib.hid (show hi = mid by have := HCASE.out; omega)
      go_enter Try.func108, Try.ntmps108
      go_wp2
      clear q0 q1 q2 q3 q4 q5 hmm hNn hpp1 hlon hmidn hppn
      go_loopw [20, 21] (fun iv jv wr => ∃ u r : Nat, u ≤ r ∧ lo ≤ u ∧ r ≤ hi ∧ iv = .int .i64 u ∧ jv = .int .i64 r ∧ Hid (LoOk cf A B pp m a lo u) ∧ Hid (HiOk cf A B pp m a hi r) ∧ Row base 3 1 wr (.slice (some ⟨g, 0, none⟩) n cap) ((P ++ (A ++ (B ++ T))).map ints) ∧ w.grownBy wr (some g))
        (fun iv jv _ => (intOf jv).toNat - (intOf iv).toNat)
      case atStart => exact ⟨lo, hi, HLH.out.1, Nat.le_refl _, Nat.le_refl _, rfl, by rw [HE.out], fun h => absurd h (Nat.lt_irrefl _), fun h => absurd h (Nat.lt_irrefl _), hrow, World.grownBy.refl _ _⟩
      case round =>
        clear hrow
        obtain ⟨u, r, hur, hlu, hrh, rfl, rfl, HLO, HHI, hrs, hgs⟩ := hrel
        by_cases hlt : u < r
        · obtain ⟨h, hh⟩ : ∃ h, (u + r) / 2 = h := ⟨_, rfl⟩
          have h1 : u ≤ h := by omega
          have h2 : h < r := by omega
          have hdiv : ((u : Int) + (r : Int)) / 2 = (h : Int) := by omega
          obtain ⟨z, hz, q6, hrA, hrB, hhl, hzl, hha, hza, hhn, hzn⟩ := HIDX.out h (by omega) (by omega)
          have hc1 := row_int hrs hhl
          have hc2 := row_int hrs hzl
          rw [at2_ hrA hha] at hc1
          rw [at3_ hrB hza] at hc2
          have hd1 := After.keep hc1
          have hd2 := After.keep hc2
          obtain ⟨x, hx⟩ : ∃ x, A[h - a] = x := ⟨_, rfl⟩
          obtain ⟨y, hy⟩ : ∃ y, B[pp - h - m] = y := ⟨_, rfl⟩
          have hxm : x ∈ A := hx ▸ List.getElem_mem hrA
          have hym : y ∈ B := hy ▸ List.getElem_mem hrB
          rw [hx] at hd1
          rw [hy] at hd2
          obtain ⟨t, ht⟩ : ∃ t, cf y x = t := ⟨_, rfl⟩
          have HC := Lib.hid (fun (s : After wr) => (HF.out s.w' x y hxm hym (grown_trans hgs (grown_of s.hb))).mono fun e w' (h : e = .returned (.int .i64 (cf y x)) ∧ Below s.w'.heap.size s.w' w') => (show e = .returned (.int .i64 t) ∧ Below s.w'.heap.size s.w' w' from ⟨by rw [h.1, ht], h.2⟩))
          have HT := Lib.hid (show ∃ (hb : pp - h - m < B.length) (ha : h - a < A.length), cf B[pp - h - m] A[h - a] = t from ⟨hrB, hrA, by rw [hx, hy, ht]⟩)
          clear hc1 hc2 hx hy hxm hym ht hhl hzl hrA hrB hh hz hha hza
          by_cases ht0 : t < 0
          · have ht1 : decide (t < 0) = true := by simpa using ht0
            go_wp2
            refine region_after (by kernel_rfl) (by kernel_rfl) ?_
            repeat (any_goals (first | go_big_quiet_step (((go_at_call 73; exact Calls.after (v := .int .i64 t) _ (HC.out _))))  | quiet_step (((go_at_call 73; exact Calls.after (v := .int .i64 t) _ (HC.out _))))))
            refine wpQuiet_nil ?_
            intro s
            have hrs2 := hrs.below s.hb
            have hgs2 := grown_trans hgs (grown_of s.hb)
            clear HC hd1 hd2 hrs
            go_wp2
            go_roundw
            case rel =>
              obtain ⟨hb, ha, h5⟩ := HT.out
              exact ⟨u, h, by omega, by omega, by omega, rfl, rfl, HLO.out, fun _ => ⟨hb, ha, by omega⟩, hrs2, hgs2⟩
            case measure => simp [intOf]; omega
          · have ht1 : decide (t < 0) = false := by simpa using ht0
            go_wp2
            refine region_after (by kernel_rfl) (by kernel_rfl) ?_
            repeat (any_goals (first | go_big_quiet_step (((go_at_call 73; exact Calls.after (v := .int .i64 t) _ (HC.out _))))  | quiet_step (((go_at_call 73; exact Calls.after (v := .int .i64 t) _ (HC.out _))))))
            refine wpQuiet_nil ?_
            intro s
            have hrs2 := hrs.below s.hb
            have hgs2 := grown_trans hgs (grown_of s.hb)
            clear HC hd1 hd2 hrs
            go_wp2
            go_roundw
            case rel =>
              obtain ⟨hb, ha, h5⟩ := HT.out
              exact ⟨h + 1, r, by omega, by omega, by omega, by go_num, rfl, fun _ => ⟨hb, ha, by simp only [Nat.add_sub_cancel]; omega⟩, HHI.out, hrs2, hgs2⟩
            case measure => simp [intOf]; omega
        · obtain rfl : u = r := by omega
          obtain ⟨i, j, en, hN, hu, hen, hiA, hjB, hmid, hcut⟩ := HGO.out u hlu hrh HLO.out HHI.out
          have hA := HA.out
          have hM := HM.out
          have hBq := HB.out
          have hab := HAB.out
          have hD := HD.out
          have hMM := HMID.out
          have q7 : (N : Int) - (u : Int) = (en : Int) := by omega
          have hP1 := fun S1 S2 => perm_cut (A := A) (B := B) (S1 := S1) (S2 := S2) i j
          have sA1 := srt_take hsA i
          have sA2 := srt_drop hsA i
          have sB1 := srt_take hsB j
          have sB2 := srt_drop hsB j
          have lA1 : (A.take i).length = i := by simp; omega
          have lA2 : (A.drop i).length = A.length - i := by simp
          have lB1 : (B.take j).length = j := by simp; omega
          have lB2 : (B.drop j).length = B.length - j := by simp
          have mA1 : ∀ x ∈ A.take i, x ∈ A := fun x h => List.mem_of_mem_take h
          have mA2 : ∀ x ∈ A.drop i, x ∈ A := fun x h => List.mem_of_mem_drop h
          have mB1 : ∀ x ∈ B.take j, x ∈ B := fun x h => List.mem_of_mem_take h
          have mB2 : ∀ x ∈ B.drop j, x ∈ B := fun x h => List.mem_of_mem_drop h
          have eA : A.take i ++ A.drop i = A := List.take_append_drop _ _
          have eB : B.take j ++ B.drop j = B := List.take_append_drop _ _
          have z1 : ¬ i < A.length → A.drop i = [] := fun h => List.drop_of_length_le (by omega)
          have z2 : ¬ 0 < i → A.take i = [] := fun h => by have : i = 0 := by omega
                                                           subst this; rfl
          have z3 : ¬ 0 < j → B.take j = [] := fun h => by have : j = 0 := by omega
                                                           subst this; rfl
          have z4 : ¬ j < B.length → B.drop j = [] := fun h => List.drop_of_length_le (by omega)
          obtain ⟨A1, h1⟩ : ∃ X, A.take i = X := ⟨_, rfl⟩
          obtain ⟨A2, h2⟩ : ∃ X, A.drop i = X := ⟨_, rfl⟩
          obtain ⟨B1, h3⟩ : ∃ X, B.take j = X := ⟨_, rfl⟩
          obtain ⟨B2, h4⟩ : ∃ X, B.drop j = X := ⟨_, rfl⟩
          simp only [h1, h2, h3, h4] at hcut hP1 sA1 sA2 sB1 sB2 lA1 lA2 lB1 lB2 mA1 mA2 mB1 mB2 eA eB z1 z2 z3 z4
          have hrow : Row base 3 1 wr (.slice (some ⟨g, 0, none⟩) n cap) ((P ++ (A1 ++ (A2 ++ (B1 ++ (B2 ++ T))))).map ints) := by
            rw [← eA, ← eB] at hrs
            simpa only [List.append_assoc] using hrs
          have FIRST := Lib.hid (fun W X (hr : Row base 3 1 W (.slice (some ⟨g, 0, none⟩) n cap) ((P ++ (A1 ++ (B1 ++ X))).map ints)) (hg : w.grownBy W (some g)) (h0 : 0 < i) (h0' : 0 < j) =>
            IH.out a u mid P A1 B1 X W (by omega) (by omega) (by omega) hr hA (by omega) (by omega) sA1 sB1 (fun x hx y hy => hAB x (mA1 x hx) y (mB1 y hy)) (fun W' x y hx hy hg' => HF.out W' x y (mA1 x hx) (mB1 y hy) (grown_trans hg hg')))
          have SECOND := Lib.hid (fun W Q (hq : Q.length = mid) (hr : Row base 3 1 W (.slice (some ⟨g, 0, none⟩) n cap) ((Q ++ (A2 ++ (B2 ++ T))).map ints)) (hg : w.grownBy W (some g)) (h0 : i < A.length) (h0' : j < B.length) =>
            IH.out mid en b Q A2 B2 T W (by omega) (by omega) (by omega) hr hq.symm (by omega) (by omega) sA2 sB2 (fun x hx y hy => hAB x (mA2 x hx) y (mB2 y hy)) (fun W' x y hx hy hg' => HF.out W' x y (mA2 x hx) (mB2 y hy) (grown_trans hg hg')))
          have FIN := Lib.hid (fun W S1 S2 (hr : Row base 3 1 W (.slice (some ⟨g, 0, none⟩) n cap) ((P ++ (S1 ++ (S2 ++ T))).map ints)) (p1 : S1.Perm (A1 ++ B1)) (s1 : Srt cf S1) (p2 : S2.Perm (A2 ++ B2)) (s2 : Srt cf S2) (hg : w.grownBy W (some g)) =>
            show (∃ S, Row base 3 1 W (.slice (some ⟨g, 0, none⟩) n cap) ((P ++ (S ++ T)).map ints) ∧ S.Perm (A ++ B) ∧ Srt cf S) ∧ w.grownBy W (some g) from
              ⟨⟨S1 ++ S2, by simpa only [List.append_assoc] using hr, hP1 S1 S2 p1 p2, srt_join s1 s2 p1 p2 hcut⟩, hg⟩)
          have ROT := Lib.hid (fun (h0 : i < A.length) (h0' : 0 < j) => rotate_any base g n cap u m en (P ++ A1) A2 B1 (B2 ++ T) (.func (.func 73) #[] #[cap0, cap1]) wr (by simpa only [List.append_assoc] using hrow) hn (by simp; omega) (by omega) (by omega) (by omega) (by omega) hc)
          have SRT := Lib.hid (And.intro sA1 (And.intro sA2 (And.intro sB1 sB2)))
          have ZZ := Lib.hid (And.intro z1 (And.intro z2 (And.intro z3 z4)))
          have HROW := Lib.hid hrow
          have HGS := Lib.hid hgs
          have LEN := Lib.hid (show (P ++ A1).length = u ∧ P.length = a ∧ A1.length = i ∧ B1.length = j ∧ (j ≤ B.length ∧ i ≤ A.length ∧ mid = u + j) by simp; omega)
          have hun : u ≤ n := by omega
          have henn : en ≤ n := by omega
          clear hP1 sA1 sA2 sB1 sB2 lA1 lA2 lB1 lB2 mA1 mA2 mB1 mB2 eA eB z1 z2 z3 z4 h1 h2 h3 h4 hrow hrs hcut IH HF HGO HLO HHI hsA hsB hAB hgs HNL HCASE hA
          by_cases hj0 : 0 < j
          · by_cases hi : i < A.length
            · have f1 : u < m := by omega
              have f2 : m < en := by omega
              have f5 : mid < en := by omega
              have f4 : u < mid := by omega
              have ROT := Lib.hid (ROT.out hi hj0)
              by_cases hi0 : 0 < i
              · have f3 : a < u := by omega
                by_cases hjl : j < B.length
                · have f6 : en < b := by omega
                  clear hN hu hen hmid hM hBq hD hab hlt hMM
                  go_wp2_with (go_at_call 123; refine ROT.out.mono ?_; rintro e w1 ⟨rfl, row1, hg1⟩)
                  refine (FIRST.out w1 _ (by simpa only [List.append_assoc] using row1) (grown_trans HGS.out hg1) hi0 hj0).mono ?_
                  rintro e w2 ⟨rfl, ⟨S1, row2, p1, s1⟩, hg2⟩
                  go_wp2_with fail
                  refine (SECOND.out w2 (P ++ S1) (by have := p1.length_eq; have h := LEN.out; simp only [List.length_append] at this h ⊢; omega) (by simpa only [List.append_assoc] using row2) (grown_trans (grown_trans HGS.out hg1) hg2) hi hjl).mono ?_
                  rintro e w3 ⟨rfl, ⟨S2, row3, p2, s2⟩, hg3⟩
                  go_wp2
                  go_end0
                  exact ⟨rfl, FIN.out w3 S1 S2 (by simpa only [List.append_assoc] using row3) p1 s1 p2 s2 (grown_trans (grown_trans (grown_trans HGS.out hg1) hg2) hg3)⟩
                · have f6 : ¬ en < b := by omega
                  obtain rfl := ZZ.out.2.2.2 hjl
                  clear hN hu hen hmid hM hBq hD hab hlt hMM
                  go_wp2_with (go_at_call 123; refine ROT.out.mono ?_; rintro e w1 ⟨rfl, row1, hg1⟩)
                  refine (FIRST.out w1 _ (by simpa only [List.append_assoc] using row1) (grown_trans HGS.out hg1) hi0 hj0).mono ?_
                  rintro e w2 ⟨rfl, ⟨S1, row2, p1, s1⟩, hg2⟩
                  go_wp2
                  go_end0
                  exact ⟨rfl, FIN.out w2 S1 A2 (by simpa only [List.append_assoc, List.nil_append] using row2) p1 s1 (by simp) SRT.out.2.1 (grown_trans (grown_trans HGS.out hg1) hg2)⟩
              · have f3 : ¬ a < u := by omega
                obtain rfl := ZZ.out.2.1 hi0
                by_cases hjl : j < B.length
                · have f6 : en < b := by omega
                  clear hN hu hen hmid hM hBq hD hab hlt hMM
                  go_wp2_with (go_at_call 123; refine ROT.out.mono ?_; rintro e w1 ⟨rfl, row1, hg1⟩)
                  refine (SECOND.out w1 (P ++ B1) (by have h := LEN.out; simp only [List.length_append, List.length_nil] at h ⊢; omega) (by simpa only [List.append_assoc, List.nil_append, List.append_nil] using row1) (grown_trans HGS.out hg1) hi hjl).mono ?_
                  rintro e w3 ⟨rfl, ⟨S2, row3, p2, s2⟩, hg3⟩
                  go_wp2
                  go_end0
                  exact ⟨rfl, FIN.out w3 B1 S2 (by simpa only [List.append_assoc] using row3) (by simp) SRT.out.2.2.1 p2 s2 (grown_trans (grown_trans HGS.out hg1) hg3)⟩
                · have f6 : ¬ en < b := by omega
                  obtain rfl := ZZ.out.2.2.2 hjl
                  clear hN hu hen hmid hM hBq hD hab hlt hMM
                  go_wp2_with (go_at_call 123; refine ROT.out.mono ?_; rintro e w1 ⟨rfl, row1, hg1⟩)
                  go_end0
                  exact ⟨rfl, FIN.out w1 B1 A2 (by simpa only [List.append_assoc, List.nil_append, List.append_nil] using row1) (by simp) SRT.out.2.2.1 (by simp) SRT.out.2.1 (grown_trans HGS.out hg1)⟩
            · have f1 : ¬ u < m := by omega
              have f4 : u < mid := by omega
              have hi0 : 0 < i := by omega
              have f3 : a < u := by omega
              have f5 : ¬ mid < en := by omega
              obtain rfl := ZZ.out.1 hi
              clear hN hu hen hmid hM hBq hD hab hlt hMM
              go_wp2_with fail
              refine (FIRST.out wr (B2 ++ T) (by simpa only [List.append_assoc, List.nil_append] using HROW.out) HGS.out hi0 hj0).mono ?_
              rintro e w2 ⟨rfl, ⟨S1, row2, p1, s1⟩, hg2⟩
              go_wp2
              go_end0
              exact ⟨rfl, FIN.out w2 S1 B2 row2 p1 s1 (by simp) SRT.out.2.2.2 (grown_trans HGS.out hg2)⟩
          · have f2 : ¬ m < en := by omega
            have f4 : ¬ u < mid := by omega
            have f3 : a < u := by omega
            obtain rfl := ZZ.out.2.2.1 hj0
            have hjl : j < B.length := by omega
            have f6 : en < b := by omega
            by_cases hi : i < A.length
            · have f1 : u < m := by omega
              have f5 : mid < en := by omega
              clear hN hu hen hmid hM hBq hD hab hlt hMM
              go_wp2_with fail
              refine (SECOND.out wr (P ++ A1) (by have h := LEN.out; simp only [List.length_append] at h ⊢; omega) (by simpa only [List.append_assoc, List.nil_append] using HROW.out) HGS.out hi hjl).mono ?_
              rintro e w3 ⟨rfl, ⟨S2, row3, p2, s2⟩, hg3⟩
              go_wp2
              go_end0
              exact ⟨rfl, FIN.out w3 A1 S2 (by simpa only [List.append_assoc] using row3) (by simp) SRT.out.1 p2 s2 (grown_trans HGS.out hg3)⟩
            · have f1 : ¬ u < m := by omega
              have f5 : ¬ mid < en := by omega
              obtain rfl := ZZ.out.1 hi
              clear hN hu hen hmid hM hBq hD hab hlt hMM
              go_wp2
              go_end0
              exact ⟨rfl, FIN.out wr A1 B2 (by simpa only [List.append_assoc, List.nil_append] using HROW.out) (by simp) SRT.out.1 (by simp) SRT.out.2.2.2 HGS.out⟩
    · clear q5
      have HE := Lib.hid (show lo = a ∧ hi = m by have := HCASE.out; omega)
      go_enter Try.func108, Try.ntmps108
      go_wp2
      clear q0 q1 q2 q3 q4 hmm hNn hpp1 hlon hmidn hppn
      go_loopw [20, 21] (fun iv jv wr => ∃ u r : Nat, u ≤ r ∧ lo ≤ u ∧ r ≤ hi ∧ iv = .int .i64 u ∧ jv = .int .i64 r ∧ Hid (LoOk cf A B pp m a lo u) ∧ Hid (HiOk cf A B pp m a hi r) ∧ Row base 3 1 wr (.slice (some ⟨g, 0, none⟩) n cap) ((P ++ (A ++ (B ++ T))).map ints) ∧ w.grownBy wr (some g))
        (fun iv jv _ => (intOf jv).toNat - (intOf iv).toNat)
      case atStart => exact ⟨lo, hi, HLH.out.1, Nat.le_refl _, Nat.le_refl _, by rw [HE.out.1], by rw [HE.out.2], fun h => absurd h (Nat.lt_irrefl _), fun h => absurd h (Nat.lt_irrefl _), hrow, World.grownBy.refl _ _⟩
      case round =>
        clear hrow
        obtain ⟨u, r, hur, hlu, hrh, rfl, rfl, HLO, HHI, hrs, hgs⟩ := hrel
        by_cases hlt : u < r
        · obtain ⟨h, hh⟩ : ∃ h, (u + r) / 2 = h := ⟨_, rfl⟩
          have h1 : u ≤ h := by omega
          have h2 : h < r := by omega
          have hdiv : ((u : Int) + (r : Int)) / 2 = (h : Int) := by omega
          obtain ⟨z, hz, q6, hrA, hrB, hhl, hzl, hha, hza, hhn, hzn⟩ := HIDX.out h (by omega) (by omega)
          have hc1 := row_int hrs hhl
          have hc2 := row_int hrs hzl
          rw [at2_ hrA hha] at hc1
          rw [at3_ hrB hza] at hc2
          have hd1 := After.keep hc1
          have hd2 := After.keep hc2
          obtain ⟨x, hx⟩ : ∃ x, A[h - a] = x := ⟨_, rfl⟩
          obtain ⟨y, hy⟩ : ∃ y, B[pp - h - m] = y := ⟨_, rfl⟩
          have hxm : x ∈ A := hx ▸ List.getElem_mem hrA
          have hym : y ∈ B := hy ▸ List.getElem_mem hrB
          rw [hx] at hd1
          rw [hy] at hd2
          obtain ⟨t, ht⟩ : ∃ t, cf y x = t := ⟨_, rfl⟩
          have HC := Lib.hid (fun (s : After wr) => (HF.out s.w' x y hxm hym (grown_trans hgs (grown_of s.hb))).mono fun e w' (h : e = .returned (.int .i64 (cf y x)) ∧ Below s.w'.heap.size s.w' w') => (show e = .returned (.int .i64 t) ∧ Below s.w'.heap.size s.w' w' from ⟨by rw [h.1, ht], h.2⟩))
          have HT := Lib.hid (show ∃ (hb : pp - h - m < B.length) (ha : h - a < A.length), cf B[pp - h - m] A[h - a] = t from ⟨hrB, hrA, by rw [hx, hy, ht]⟩)
          clear hc1 hc2 hx hy hxm hym ht hhl hzl hrA hrB hh hz hha hza
          by_cases ht0 : t < 0
          · have ht1 : decide (t < 0) = true := by simpa using ht0
            go_wp2
            refine region_after (by kernel_rfl) (by kernel_rfl) ?_
            repeat (any_goals (first | go_big_quiet_step (((go_at_call 73; exact Calls.after (v := .int .i64 t) _ (HC.out _))))  | quiet_step (((go_at_call 73; exact Calls.after (v := .int .i64 t) _ (HC.out _))))))
            refine wpQuiet_nil ?_
            intro s
            have hrs2 := hrs.below s.hb
            have hgs2 := grown_trans hgs (grown_of s.hb)
            clear HC hd1 hd2 hrs
            go_wp2
            go_roundw
            case rel =>
              obtain ⟨hb, ha, h5⟩ := HT.out
              exact ⟨u, h, by omega, by omega, by omega, rfl, rfl, HLO.out, fun _ => ⟨hb, ha, by omega⟩, hrs2, hgs2⟩
            case measure => simp [intOf]; omega
          · have ht1 : decide (t < 0) = false := by simpa using ht0
            go_wp2
            refine region_after (by kernel_rfl) (by kernel_rfl) ?_
            repeat (any_goals (first | go_big_quiet_step (((go_at_call 73; exact Calls.after (v := .int .i64 t) _ (HC.out _))))  | quiet_step (((go_at_call 73; exact Calls.after (v := .int .i64 t) _ (HC.out _))))))
            refine wpQuiet_nil ?_
            intro s
            have hrs2 := hrs.below s.hb
            have hgs2 := grown_trans hgs (grown_of s.hb)
            clear HC hd1 hd2 hrs
            go_wp2
            go_roundw
            case rel =>
              obtain ⟨hb, ha, h5⟩ := HT.out
              exact ⟨h + 1, r, by omega, by omega, by omega, by go_num, rfl, fun _ => ⟨hb, ha, by simp only [Nat.add_sub_cancel]; omega⟩, HHI.out, hrs2, hgs2⟩
            case measure => simp [intOf]; omega
        · obtain rfl : u = r := by omega
          obtain ⟨i, j, en, hN, hu, hen, hiA, hjB, hmid, hcut⟩ := HGO.out u hlu hrh HLO.out HHI.out
          have hA := HA.out
          have hM := HM.out
          have hBq := HB.out
          have hab := HAB.out
          have hD := HD.out
          have hMM := HMID.out
          have q7 : (N : Int) - (u : Int) = (en : Int) := by omega
          have hP1 := fun S1 S2 => perm_cut (A := A) (B := B) (S1 := S1) (S2 := S2) i j
          have sA1 := srt_take hsA i
          have sA2 := srt_drop hsA i
          have sB1 := srt_take hsB j
          have sB2 := srt_drop hsB j
          have lA1 : (A.take i).length = i := by simp; omega
          have lA2 : (A.drop i).length = A.length - i := by simp
          have lB1 : (B.take j).length = j := by simp; omega
          have lB2 : (B.drop j).length = B.length - j := by simp
          have mA1 : ∀ x ∈ A.take i, x ∈ A := fun x h => List.mem_of_mem_take h
          have mA2 : ∀ x ∈ A.drop i, x ∈ A := fun x h => List.mem_of_mem_drop h
          have mB1 : ∀ x ∈ B.take j, x ∈ B := fun x h => List.mem_of_mem_take h
          have mB2 : ∀ x ∈ B.drop j, x ∈ B := fun x h => List.mem_of_mem_drop h
          have eA : A.take i ++ A.drop i = A := List.take_append_drop _ _
          have eB : B.take j ++ B.drop j = B := List.take_append_drop _ _
          have z1 : ¬ i < A.length → A.drop i = [] := fun h => List.drop_of_length_le (by omega)
          have z2 : ¬ 0 < i → A.take i = [] := fun h => by have : i = 0 := by omega
                                                           subst this; rfl
          have z3 : ¬ 0 < j → B.take j = [] := fun h => by have : j = 0 := by omega
                                                           subst this; rfl
          have z4 : ¬ j < B.length → B.drop j = [] := fun h => List.drop_of_length_le (by omega)
          obtain ⟨A1, h1⟩ : ∃ X, A.take i = X := ⟨_, rfl⟩
          obtain ⟨A2, h2⟩ : ∃ X, A.drop i = X := ⟨_, rfl⟩
          obtain ⟨B1, h3⟩ : ∃ X, B.take j = X := ⟨_, rfl⟩
          obtain ⟨B2, h4⟩ : ∃ X, B.drop j = X := ⟨_, rfl⟩
          simp only [h1, h2, h3, h4] at hcut hP1 sA1 sA2 sB1 sB2 lA1 lA2 lB1 lB2 mA1 mA2 mB1 mB2 eA eB z1 z2 z3 z4
          have hrow : Row base 3 1 wr (.slice (some ⟨g, 0, none⟩) n cap) ((P ++ (A1 ++ (A2 ++ (B1 ++ (B2 ++ T))))).map ints) := by
            rw [← eA, ← eB] at hrs
            simpa only [List.append_assoc] using hrs
          have FIRST := Lib.hid (fun W X (hr : Row base 3 1 W (.slice (some ⟨g, 0, none⟩) n cap) ((P ++ (A1 ++ (B1 ++ X))).map ints)) (hg : w.grownBy W (some g)) (h0 : 0 < i) (h0' : 0 < j) =>
            IH.out a u mid P A1 B1 X W (by omega) (by omega) (by omega) hr hA (by omega) (by omega) sA1 sB1 (fun x hx y hy => hAB x (mA1 x hx) y (mB1 y hy)) (fun W' x y hx hy hg' => HF.out W' x y (mA1 x hx) (mB1 y hy) (grown_trans hg hg')))
          have SECOND := Lib.hid (fun W Q (hq : Q.length = mid) (hr : Row base 3 1 W (.slice (some ⟨g, 0, none⟩) n cap) ((Q ++ (A2 ++ (B2 ++ T))).map ints)) (hg : w.grownBy W (some g)) (h0 : i < A.length) (h0' : j < B.length) =>
            IH.out mid en b Q A2 B2 T W (by omega) (by omega) (by omega) hr hq.symm (by omega) (by omega) sA2 sB2 (fun x hx y hy => hAB x (mA2 x hx) y (mB2 y hy)) (fun W' x y hx hy hg' => HF.out W' x y (mA2 x hx) (mB2 y hy) (grown_trans hg hg')))
          have FIN := Lib.hid (fun W S1 S2 (hr : Row base 3 1 W (.slice (some ⟨g, 0, none⟩) n cap) ((P ++ (S1 ++ (S2 ++ T))).map ints)) (p1 : S1.Perm (A1 ++ B1)) (s1 : Srt cf S1) (p2 : S2.Perm (A2 ++ B2)) (s2 : Srt cf S2) (hg : w.grownBy W (some g)) =>
            show (∃ S, Row base 3 1 W (.slice (some ⟨g, 0, none⟩) n cap) ((P ++ (S ++ T)).map ints) ∧ S.Perm (A ++ B) ∧ Srt cf S) ∧ w.grownBy W (some g) from
              ⟨⟨S1 ++ S2, by simpa only [List.append_assoc] using hr, hP1 S1 S2 p1 p2, srt_join s1 s2 p1 p2 hcut⟩, hg⟩)
          have ROT := Lib.hid (fun (h0 : i < A.length) (h0' : 0 < j) => rotate_any base g n cap u m en (P ++ A1) A2 B1 (B2 ++ T) (.func (.func 73) #[] #[cap0, cap1]) wr (by simpa only [List.append_assoc] using hrow) hn (by simp; omega) (by omega) (by omega) (by omega) (by omega) hc)
          have SRT := Lib.hid (And.intro sA1 (And.intro sA2 (And.intro sB1 sB2)))
          have ZZ := Lib.hid (And.intro z1 (And.intro z2 (And.intro z3 z4)))
          have HROW := Lib.hid hrow
          have HGS := Lib.hid hgs
          have LEN := Lib.hid (show (P ++ A1).length = u ∧ P.length = a ∧ A1.length = i ∧ B1.length = j ∧ (j ≤ B.length ∧ i ≤ A.length ∧ mid = u + j) by simp; omega)
          have hun : u ≤ n := by omega
          have henn : en ≤ n := by omega
          clear hP1 sA1 sA2 sB1 sB2 lA1 lA2 lB1 lB2 mA1 mA2 mB1 mB2 eA eB z1 z2 z3 z4 h1 h2 h3 h4 hrow hrs hcut IH HF HGO HLO HHI hsA hsB hAB hgs HNL HCASE hA
          by_cases hj0 : 0 < j
          · by_cases hi : i < A.length
            · have f1 : u < m := by omega
              have f2 : m < en := by omega
              have f5 : mid < en := by omega
              have f4 : u < mid := by omega
              have ROT := Lib.hid (ROT.out hi hj0)
              by_cases hi0 : 0 < i
              · have f3 : a < u := by omega
                by_cases hjl : j < B.length
                · have f6 : en < b := by omega
                  clear hN hu hen hmid hM hBq hD hab hlt hMM
                  go_wp2_with (go_at_call 123; refine ROT.out.mono ?_; rintro e w1 ⟨rfl, row1, hg1⟩)
                  refine (FIRST.out w1 _ (by simpa only [List.append_assoc] using row1) (grown_trans HGS.out hg1) hi0 hj0).mono ?_
                  rintro e w2 ⟨rfl, ⟨S1, row2, p1, s1⟩, hg2⟩
                  go_wp2_with fail
                  refine (SECOND.out w2 (P ++ S1) (by have := p1.length_eq; have h := LEN.out; simp only [List.length_append] at this h ⊢; omega) (by simpa only [List.append_assoc] using row2) (grown_trans (grown_trans HGS.out hg1) hg2) hi hjl).mono ?_
                  rintro e w3 ⟨rfl, ⟨S2, row3, p2, s2⟩, hg3⟩
                  go_wp2
                  go_end0
                  exact ⟨rfl, FIN.out w3 S1 S2 (by simpa only [List.append_assoc] using row3) p1 s1 p2 s2 (grown_trans (grown_trans (grown_trans HGS.out hg1) hg2) hg3)⟩
                · have f6 : ¬ en < b := by omega
                  obtain rfl := ZZ.out.2.2.2 hjl
                  clear hN hu hen hmid hM hBq hD hab hlt hMM
                  go_wp2_with (go_at_call 123; refine ROT.out.mono ?_; rintro e w1 ⟨rfl, row1, hg1⟩)
                  refine (FIRST.out w1 _ (by simpa only [List.append_assoc] using row1) (grown_trans HGS.out hg1) hi0 hj0).mono ?_
                  rintro e w2 ⟨rfl, ⟨S1, row2, p1, s1⟩, hg2⟩
                  go_wp2
                  go_end0
                  exact ⟨rfl, FIN.out w2 S1 A2 (by simpa only [List.append_assoc, List.nil_append] using row2) p1 s1 (by simp) SRT.out.2.1 (grown_trans (grown_trans HGS.out hg1) hg2)⟩
              · have f3 : ¬ a < u := by omega
                obtain rfl := ZZ.out.2.1 hi0
                by_cases hjl : j < B.length
                · have f6 : en < b := by omega
                  clear hN hu hen hmid hM hBq hD hab hlt hMM
                  go_wp2_with (go_at_call 123; refine ROT.out.mono ?_; rintro e w1 ⟨rfl, row1, hg1⟩)
                  refine (SECOND.out w1 (P ++ B1) (by have h := LEN.out; simp only [List.length_append, List.length_nil] at h ⊢; omega) (by simpa only [List.append_assoc, List.nil_append, List.append_nil] using row1) (grown_trans HGS.out hg1) hi hjl).mono ?_
                  rintro e w3 ⟨rfl, ⟨S2, row3, p2, s2⟩, hg3⟩
                  go_wp2
                  go_end0
                  exact ⟨rfl, FIN.out w3 B1 S2 (by simpa only [List.append_assoc] using row3) (by simp) SRT.out.2.2.1 p2 s2 (grown_trans (grown_trans HGS.out hg1) hg3)⟩
                · have f6 : ¬ en < b := by omega
                  obtain rfl := ZZ.out.2.2.2 hjl
                  clear hN hu hen hmid hM hBq hD hab hlt hMM
                  go_wp2_with (go_at_call 123; refine ROT.out.mono ?_; rintro e w1 ⟨rfl, row1, hg1⟩)
                  go_end0
                  exact ⟨rfl, FIN.out w1 B1 A2 (by simpa only [List.append_assoc, List.nil_append, List.append_nil] using row1) (by simp) SRT.out.2.2.1 (by simp) SRT.out.2.1 (grown_trans HGS.out hg1)⟩
            · have f1 : ¬ u < m := by omega
              have f4 : u < mid := by omega
              have hi0 : 0 < i := by omega
              have f3 : a < u := by omega
              have f5 : ¬ mid < en := by omega
              obtain rfl := ZZ.out.1 hi
              clear hN hu hen hmid hM hBq hD hab hlt hMM
              go_wp2_with fail
              refine (FIRST.out wr (B2 ++ T) (by simpa only [List.append_assoc, List.nil_append] using HROW.out) HGS.out hi0 hj0).mono ?_
              rintro e w2 ⟨rfl, ⟨S1, row2, p1, s1⟩, hg2⟩
              go_wp2
              go_end0
              exact ⟨rfl, FIN.out w2 S1 B2 row2 p1 s1 (by simp) SRT.out.2.2.2 (grown_trans HGS.out hg2)⟩
          · have f2 : ¬ m < en := by omega
            have f4 : ¬ u < mid := by omega
            have f3 : a < u := by omega
            obtain rfl := ZZ.out.2.2.1 hj0
            have hjl : j < B.length := by omega
            have f6 : en < b := by omega
            by_cases hi : i < A.length
            · have f1 : u < m := by omega
              have f5 : mid < en := by omega
              clear hN hu hen hmid hM hBq hD hab hlt hMM
              go_wp2_with fail
              refine (SECOND.out wr (P ++ A1) (by have h := LEN.out; simp only [List.length_append] at h ⊢; omega) (by simpa only [List.append_assoc, List.nil_append] using HROW.out) HGS.out hi hjl).mono ?_
              rintro e w3 ⟨rfl, ⟨S2, row3, p2, s2⟩, hg3⟩
              go_wp2
              go_end0
              exact ⟨rfl, FIN.out w3 A1 S2 (by simpa only [List.append_assoc] using row3) (by simp) SRT.out.1 p2 s2 (grown_trans HGS.out hg3)⟩
            · have f1 : ¬ u < m := by omega
              have f5 : ¬ mid < en := by omega
              obtain rfl := ZZ.out.1 hi
              clear hN hu hen hmid hM hBq hD hab hlt hMM
              go_wp2
              go_end0
              exact ⟨rfl, FIN.out wr A1 B2 (by simpa only [List.append_assoc, List.nil_append] using HROW.out) (by simp) SRT.out.1 (by simp) SRT.out.2.2.2 HGS.out⟩
end Go.Proofs.Ythhlfkeikcmnlaa
