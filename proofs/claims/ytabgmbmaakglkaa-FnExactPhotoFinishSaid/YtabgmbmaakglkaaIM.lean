/- The law's marks on slices of slices of integers. No condition. -/
import Derived.Test.YtabgmbmaakglkaaIL
namespace Go.Proofs.Ytabgmbmaakglkaa
open Go Go.RowKit

def iLMarks : Int → List Nat → List (List Int)
  | _, [] => []
  | k, n :: ns => intMarks k n :: iLMarks (k + (1 * n : Nat)) ns
def iLEnd : Int → List Nat → Int
  | k, [] => k
  | k, n :: ns => iLEnd (k + (1 * n : Nat)) ns
theorem iLMarks_len : ∀ (ns : List Nat) (k : Int), (iLMarks k ns).length = ns.length
  | [], _ => rfl
  | n :: ns, k => by simp [iLMarks, iLMarks_len ns]
theorem iLEnd_step : ∀ (ns : List Nat) (k : Int) (j : Nat) (h : j < ns.length), iLEnd k (ns.take (j + 1)) = iLEnd k (ns.take j) + (1 * ns[j] : Nat)
  | [], _, j, h => absurd h (by simp)
  | n :: ns, k, 0, _ => by simp [iLEnd]
  | n :: ns, k, j + 1, h => by
    simp only [List.take_succ_cons, iLEnd, List.getElem_cons_succ]
    exact iLEnd_step ns _ j (by simpa using h)
theorem iLMarks_get : ∀ (ns : List Nat) (k : Int) (j : Nat) (h : j < ns.length) (h' : j < (iLMarks k ns).length), (iLMarks k ns)[j] = intMarks (iLEnd k (ns.take j)) ns[j]
  | [], _, j, h, _ => absurd h (by simp)
  | n :: ns, k, 0, _, _ => by simp [iLMarks, iLEnd]
  | n :: ns, k, j + 1, h, h' => by
    simp only [iLMarks, List.getElem_cons_succ, List.take_succ_cons, iLEnd]
    exact iLMarks_get ns _ j (by simpa using h) _
theorem iLEnd_le : ∀ (ns : List Nat) (k : Int) (j : Nat), (∀ n ∈ ns, n ≤ 1048576) → j ≤ ns.length → k ≤ iLEnd k (ns.take j) ∧ iLEnd k (ns.take j) ≤ k + 1048576 * j
  | ns, k, 0, _, _ => by simp [iLEnd]
  | ns, k, j + 1, hn, hj => by
    obtain ⟨h1, h2⟩ := iLEnd_le ns k j hn (by omega)
    have h3 := hn ns[j] (List.getElem_mem (by omega))
    rw [iLEnd_step ns k j (by omega)]
    omega
def iLLens (zs : List IL) : List Nat := zs.map fun z => z.k.length
theorem lenIL_small {zs : List IL} {ks : List (List Int)} (hk : zs.map IL.k = ks) (h : ks.length ≤ 1048576 ∧ ∀ k ∈ ks, k.length ≤ 1048576) : zs.length ≤ 1048576 ∧ ∀ z ∈ zs, z.k.length ≤ 1048576 := by
  subst hk
  exact ⟨by simpa using h.1, fun z hz => h.2 z.k (List.mem_map.2 ⟨z, hz, rfl⟩)⟩
theorem iLEnd_bd (zs : List IL) (k0 : Int) (h0 : 0 ≤ k0) (h1 : k0 ≤ 4398046511104) (hl : zs.length ≤ 1048576 ∧ ∀ z ∈ zs, z.k.length ≤ 1048576) : 0 ≤ iLEnd k0 (iLLens zs) ∧ iLEnd k0 (iLLens zs) ≤ 9000000000000 := by
  have := iLEnd_le (iLLens zs) k0 (iLLens zs).length (fun n hn => by
    obtain ⟨z, hz, rfl⟩ := List.mem_map.1 hn
    exact hl.2 z hz) (Nat.le_refl _)
  rw [List.take_length] at this
  have h2 : (iLLens zs).length = zs.length := by simp [iLLens]
  have h3 := hl.1
  omega
/-- In the midst of marking: j done. -/
def ILLike (k0 : Int) (ns : List Nat) (zz zs : List IL) (j : Nat) : Prop := zz.length = zs.length ∧ ∀ i (h : i < zz.length) (h' : i < zs.length) (hn : i < ns.length),
  zz[i].sv = zs[i].sv ∧ zz[i].k.length = ns[i] ∧ (i < j → zz[i].k = intMarks (iLEnd k0 (ns.take i)) ns[i])
theorem ILLike.step {k0 : Int} {ns : List Nat} {zz zs : List IL} {j : Nat} (h : ILLike k0 ns zz zs j) (hj : j < zz.length) (hjn : j < ns.length) (z' : IL) (ha : z'.sv = zz[j].sv) (hk : z'.k = intMarks (iLEnd k0 (ns.take j)) ns[j]) : ILLike k0 ns (zz.set j z') zs (j + 1) := by
  refine ⟨by simpa using h.1, fun i hi h' hn => ?_⟩
  have hi' : i < zz.length := by simpa using hi
  by_cases e : j = i
  · subst e
    rw [List.getElem_set_self]
    refine ⟨by rw [ha]; exact (h.2 j hi' h' hn).1, ?_, fun _ => hk⟩
    rw [hk, intMarks_len]
  · rw [List.getElem_set_ne e]
    obtain ⟨h1, h2, h3⟩ := h.2 i hi' h' hn
    exact ⟨h1, h2, fun hij => h3 (by omega)⟩
theorem ILLike.all {k0 : Int} {ns : List Nat} {zz zs : List IL} (h : ILLike k0 ns zz zs zs.length) (hn : ns.length = zs.length) : zz.map IL.k = iLMarks k0 ns := by
  apply List.ext_getElem (by rw [List.length_map, h.1, iLMarks_len, hn])
  intro i h1 h2
  rw [List.getElem_map, iLMarks_get ns k0 i (by rw [iLMarks_len] at h2; exact h2)]
  have hi : i < zz.length := by simpa using h1
  exact (h.2 i hi (by rw [← h.1]; exact hi) (by rw [hn, ← h.1]; exact hi)).2.2 (by rw [← h.1]; exact hi)
/-- One inner slice turned in place. -/
theorem ILR.upd {base : Nat} {w w2 : World} {v : Value} {zz : List IL} (h : ILR base w v zz) {j : Nat} (hj : j < zz.length) (z' : IL) (ha : z'.sv = zz[j].sv) (hin : Row base 3 1 w2 z'.sv (z'.k.map ints)) (hg : w.grownBy w2 z'.sv.ownBlock) : ILR base w2 v (zz.set j z') := by
  have hz := h.2.1 zz[j] (List.getElem_mem hj)
  have hap : ∀ i (hi : i < zz.length), i ≠ j → Dis zz[i].sv z'.sv := by
    intro i hi hne
    rw [ha]
    rcases Nat.lt_or_ge i j with hij | hij
    · exact List.pairwise_iff_getElem.1 h.2.2 i j hi hj hij
    · exact (List.pairwise_iff_getElem.1 h.2.2 j i hj hi (by omega)).symm
  have hlst : (zz.set j z').map IL.lst = zz.map IL.lst := by
    apply List.ext_getElem (by simp)
    intro i h1 h2
    have hi : i < zz.length := by simpa using h2
    simp only [List.getElem_map]
    by_cases e : j = i
    · subst e
      rw [List.getElem_set_self]
      show [z'.sv] = [zz[j].sv]
      rw [ha]
    · rw [List.getElem_set_ne e]
  have hsv : ∀ i (hi : i < (zz.set j z').length), ((zz.set j z')[i]).sv = (zz[i]'(by simpa using hi)).sv := by
    intro i hi
    by_cases e : j = i
    · subst e; rw [List.getElem_set_self]; exact ha
    · rw [List.getElem_set_ne e]
  refine ⟨?_, ?_, ?_⟩
  · rw [hlst]
    refine h.1.kept hg ?_
    rw [ha]
    exact hz.2.symm.or
  · intro z hzm
    obtain ⟨i, hi, rfl⟩ := List.getElem_of_mem hzm
    have hi' : i < zz.length := by simpa using hi
    by_cases e : j = i
    · subst e
      rw [List.getElem_set_self]
      exact ⟨hin, by rw [ha]; exact hz.2⟩
    · rw [List.getElem_set_ne e]
      have h1 := h.2.1 zz[i] (List.getElem_mem hi')
      exact ⟨h1.1.kept hg (hap i hi' (fun h => e h.symm)).or, h1.2⟩
  · rw [List.pairwise_iff_getElem]
    intro i k hi hk hik
    have := List.pairwise_iff_getElem.1 h.2.2 i k (by simpa using hi) (by simpa using hk) hik
    rw [hsv i hi, hsv k hk]
    exact this

set_option maxRecDepth 100000 in
set_option maxHeartbeats 4000000 in
theorem markIntSS_any (base : Nat) (v : Value) (zs : List IL) (k0 : Int) (w : World) (h : ILR base w v zs) (h0 : 0 ≤ k0) (h1 : k0 ≤ 4398046511104) (hl : zs.length ≤ 1048576 ∧ ∀ z ∈ zs, z.k.length ≤ 1048576) :
    Calls Try.prog 26 #[v, .int .i64 k0] w fun e w' => e = .returned (.int .i64 (iLEnd k0 (iLLens zs))) ∧ (∃ zz, ILR base w' v zz ∧ zz.map IL.k = iLMarks k0 (iLLens zs)) ∧ KeptOff (ILBlk v zs) w w' := by
  obtain ⟨hl1, hl2⟩ := hl
  obtain ⟨ns, hns⟩ : ∃ ns, ns = iLLens zs := ⟨_, rfl⟩
  have hnl : ns.length = zs.length := by rw [hns]; simp [iLLens]
  have HNS := Lib.hid (show ∀ n ∈ ns, n ≤ 1048576 by
    intro n hn
    rw [hns] at hn
    obtain ⟨z, hz, rfl⟩ := List.mem_map.1 hn
    exact hl2 z hz)
  have HL0 := Lib.hid (show ILLike k0 ns zs zs 0 from ⟨rfl, fun i h h' hn => ⟨rfl, by simp only [hns, iLLens, List.getElem_map], fun h => absurd h (by omega)⟩⟩)
  rw [← hns]
  have HNL := Lib.hid hnl
  clear hns hl2 hnl
  obtain ⟨A, c, rfl, hc, hm⟩ := h.1.parts
  simp only [List.length_map] at hc ⊢
  have hR := h
  simp only [List.length_map] at hR
  clear h
  go_enter Try.func26, Try.ntmps26
  go_wp2
  go_loopw [1, 5] (fun kk i wr => ∃ (j : Nat) (m : Int) (zz : List IL), j ≤ zs.length ∧ i = .int .i64 j ∧ kk = .int .i64 m ∧ Hid (m = iLEnd k0 (ns.take j)) ∧ ILR base wr (.slice A zs.length c) zz ∧ Hid (ILLike k0 ns zz zs j) ∧ KeptOff (ILBlk (.slice A zs.length c) zs) w wr)
    (fun _ i _ => zs.length - (intOf i).toNat)
  case atStart => exact ⟨0, k0, zs, Nat.zero_le _, rfl, rfl, by show k0 = _; simp [iLEnd], hR, HL0.out, KeptOff.refl _ _⟩
  case round =>
    clear hR
    obtain ⟨j, m, zz, hjl, rfl, rfl, HM, hR, HLK, hko⟩ := hrel
    by_cases hlt : j < zs.length
    · have hjz : j < zz.length := by rw [HLK.out.1]; exact hlt
      have hjn : j < ns.length := by rw [HNL.out]; exact hlt
      have hm0 : 0 ≤ m ∧ m ≤ 9000000000000 := by
        have := iLEnd_le ns k0 j HNS.out (by omega)
        rw [← HM.out] at this
        omega
      obtain ⟨hm1, hm2⟩ := hm0
      have hnj := HNS.out ns[j] (List.getElem_mem hjn)
      have HLJ := Lib.hid (HLK.out.2 j hjz hlt hjn)
      have HST := Lib.hid (fun z' ha hk => HLK.out.step hjz hjn z' ha hk)
      have HES := Lib.hid (iLEnd_step ns k0 j hjn)
      have HUP := Lib.hid (fun z' ha w2 h1 h2 => hR.upd (w2 := w2) hjz z' ha h1 h2)
      have hrow0 := hR.1
      obtain ⟨g, cap, he, hbg, hg, hcap⟩ := hrow0.form (by rw [List.length_map]; omega)
      simp only [Value.slice.injEq] at he
      obtain ⟨rfl, hq, rfl⟩ := he
      clear hq hcap hbg hg
      have hr1 := hrow0.range (k := j) (by rw [List.length_map]; exact hjz)
      rw [List.getElem_map] at hr1
      have hcl : wr.cell? ⟨g, j, none⟩ = some zz[j].sv := by have := hr1 0 _ rfl; simpa using this
      have hin := (hR.2.1 zz[j] (List.getElem_mem hjz)).1
      have HBM := Lib.hid (show ∀ k, zz[j].sv.ownBlock = some k → ILBlk (.slice (some ⟨g, 0, none⟩) zs.length c) zs k from fun k hk => .inr ⟨zs[j], List.getElem_mem hlt, by rw [← HLJ.out.1]; exact hk⟩)
      have HKO := Lib.hid hko
      obtain ⟨z, hz⟩ : ∃ z, z = zz[j] := ⟨_, rfl⟩
      rw [← hz] at HLJ HST HBM HUP hcl hin
      clear hR hko hz hrow0 hr1 HLK
      obtain ⟨zk, za, zn, zc⟩ := z
      simp only at hin hcl HLJ
      have hzl : zk.length ≤ 1048576 := by rw [HLJ.out.2.1]; exact hnj
      go_wp2_with fail
      refine (markIntS_any base _ _ m _ hin (by simp; omega) (by omega) (by omega)).mono ?_
      rintro e w9 ⟨rfl, hin9, hg9⟩
      simp only [List.length_map] at hin9 ⊢
      have HR9 := Lib.hid (HUP.out ⟨intMarks m zk.length, za, zn, zc⟩ rfl w9 hin9 hg9)
      have HL9 := Lib.hid (HST.out ⟨intMarks m zk.length, za, zn, zc⟩ rfl (by rw [HM.out.symm, ← HLJ.out.2.1]))
      have HK9 := Lib.hid (HKO.out.trans (KeptOff.of_grown hg9 (fun k hk => HBM.out k hk)))
      have hE := HES.out
      rw [← HM.out, ← HLJ.out.2.1] at hE
      have HE := Lib.hid hE
      clear hin9 hg9 hE hin
      go_wp2
      go_roundw
      case rel => exact ⟨j + 1, m + (1 * zk.length : Nat), _, by omega, by go_num, by go_num, HE.out.symm, HR9.out, HL9.out, HK9.out⟩
      case measure => simp [intOf]; omega
    · go_wp2
      go_ret
      obtain rfl : j = zs.length := by omega
      have e1 : ns.take zs.length = ns := by rw [← HNL.out]; exact List.take_length
      rw [e1] at HM
      exact ⟨ret_int HM.out, ⟨zz, hR, HLK.out.all HNL.out⟩, hko⟩

set_option maxRecDepth 100000 in
set_option maxHeartbeats 4000000 in
theorem heldIntSS_any (v : Value) (zz : List IL) (ns : List Nat) (k0 : Int) (w : World) (h : ILS w v zz) (hk : zz.map IL.k = iLMarks k0 ns) (h0 : 0 ≤ k0) (h1 : k0 ≤ 4398046511104) (hl : ns.length ≤ 1048576) (hl2 : ∀ n ∈ ns, n ≤ 1048576) :
    Calls Try.prog 27 #[v, .int .i64 k0] w fun e w' => e = .returned (.int .i64 (iLEnd k0 ns)) ∧ w = w' := by
  have hlz : zz.length = ns.length := by have := congrArg List.length hk; simpa [iLMarks_len] using this
  have HNS := Lib.hid hl2
  have HI := Lib.hid h.2
  have HZL := Lib.hid hlz
  have HK := Lib.hid (show ∀ j (h : j < zz.length) (hn : j < ns.length), zz[j].k = intMarks (iLEnd k0 (ns.take j)) ns[j] by
    intro j h hn
    rw [← iLMarks_get ns k0 j hn (by rw [iLMarks_len]; exact hn)]
    simp only [← hk, List.getElem_map])
  obtain ⟨A, c, rfl, hc, hm, hat0⟩ := h.1.open_
  clear h hk hl2
  rw [hlz] at hc ⊢
  clear hlz
  go_enter Try.func27, Try.ntmps27
  go_wp2
  go_loop [1, 5] (fun kk i => ∃ (j : Nat) (m : Int), j ≤ ns.length ∧ i = .int .i64 j ∧ kk = .int .i64 m ∧ Hid (m = iLEnd k0 (ns.take j)))
    (fun _ i => ns.length - (intOf i).toNat)
  case atStart => exact ⟨0, k0, Nat.zero_le _, rfl, rfl, by show k0 = _; simp [iLEnd]⟩
  case round =>
    obtain ⟨j, m, hjl, rfl, rfl, HM⟩ := hrel
    by_cases hlt : j < ns.length
    · have hjz : j < zz.length := by rw [HZL.out]; exact hlt
      obtain ⟨b, off, rfl, hat⟩ := flat_at hat0 (by omega)
      have hcl : w.cell? ⟨b, off + j, none⟩ = some zz[j].sv := by have := hat j hjz 0 _ rfl; simpa using this
      have hIN := HI.out zz[j] (List.getElem_mem hjz)
      have hkj := HK.out j hjz hlt
      have hm0 : 0 ≤ m ∧ m ≤ 9000000000000 := by
        have := iLEnd_le ns k0 j HNS.out (by omega)
        rw [← HM.out] at this
        omega
      obtain ⟨hm1, hm2⟩ := hm0
      have hnj := HNS.out ns[j] (List.getElem_mem hlt)
      have hES := iLEnd_step ns k0 j hlt
      rw [← HM.out] at hkj hES
      have HES := Lib.hid hES
      obtain ⟨z, hz⟩ : ∃ z, z = zz[j] := ⟨_, rfl⟩
      obtain ⟨n, hn⟩ : ∃ n, n = ns[j] := ⟨_, rfl⟩
      rw [← hz] at hcl hIN hkj
      rw [← hn] at hkj hnj HES
      clear hat hat0 hz hn hES
      obtain ⟨sp, A', n', c'⟩ := z
      simp only at hkj
      obtain rfl := hkj
      have HSL := Lib.hid (show Sl (Flat ints) 1 w (.slice A' n' c') (intMarks m n) from hIN)
      try simp only at hcl
      clear hIN
      go_wp2_with (go_at_call 18; refine (heldIntS_any _ n m _ HSL.out (by omega) (by omega) (by omega)).mono ?_; rintro e w2 ⟨rfl, rfl⟩)
      go_round
      case rel => exact ⟨j + 1, m + (1 * n : Nat), by omega, by go_num, by go_num, HES.out.symm⟩
      case measure => simp [intOf]; omega
    · go_wp2
      go_ret
      obtain rfl : j = ns.length := by omega
      rw [List.take_length] at HM
      exact ⟨ret_int HM.out, rfl⟩
end Go.Proofs.Ytabgmbmaakglkaa
