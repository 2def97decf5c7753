/- The law's own copies of passings, and comparisons. No condition. -/
import Derived.Test.YtbeonigmcbipeaaPasL
import Derived.Test.YtbeonigmcbipeaaReg
import Derived.OneCell
namespace Go.Proofs.Ytbeonigmcbipeaa
open Go Go.RowKit

set_option maxHeartbeats 1000000 in
theorem toPassing_any (p : Pas) (w : World) (h : p.In w) (hn : p.k.splits.length ≤ 1048576) :
    Calls Try.prog 52 #[p.val] w fun e w' => ∃ p' : Pas, e = .returned p'.val ∧ p'.k = p.k ∧ Pas.Row (w.heap.size + 1) w' p' ∧ Below w.heap.size w w' := by
  obtain ⟨⟨r, sp⟩, A, n, c⟩ := p
  have hs : Sl (Flat ints) 1 w (.slice A n c) sp := h
  show Calls Try.prog 52 #[.agg #[.int .i64 r, .slice A n c]] w _
  simp only at hn
  clear h
  go_enter Try.func52, Try.ntmps52
  go_wp2_with fail
  have hW : Below w.heap.size w (((w.alloc (.cells #[.int .i64 r, .slice A n c] 53)).alloc (.cells #[.int .i64 0, .slice none 0 0] 49)).alloc (.cells #[.int .i64 r, .slice none 0 0] 49)) := by (repeat (first | exact Below.refl _ _ | assumption | refine Below.drew ?_ | refine Below.alloc ?_ (by first | exact Nat.le_refl _ | (simp; done) | (simp; omega)) _))
  have hl1 : LitAt (((w.alloc (.cells #[.int .i64 r, .slice A n c] 53)).alloc (.cells #[.int .i64 0, .slice none 0 0] 49)).alloc (.cells #[.int .i64 r, .slice none 0 0] 49)) (w.heap.size + 1) 49 [.int .i64 0, .slice none 0 0] := LitAt.alloc (LitAt.new _ _ _ _ (by simp)) _
  have hl2 : LitAt (((w.alloc (.cells #[.int .i64 r, .slice A n c] 53)).alloc (.cells #[.int .i64 0, .slice none 0 0] 49)).alloc (.cells #[.int .i64 r, .slice none 0 0] 49)) (w.heap.size + 1 + 1) 49 [.int .i64 r, .slice none 0 0] := LitAt.new _ _ _ _ (by simp)
  have hsz : (((w.alloc (.cells #[.int .i64 r, .slice A n c] 53)).alloc (.cells #[.int .i64 0, .slice none 0 0] 49)).alloc (.cells #[.int .i64 r, .slice none 0 0] 49)).heap.size = w.heap.size + 3 := by simp
  generalize ((w.alloc (.cells #[.int .i64 r, .slice A n c] 53)).alloc (.cells #[.int .i64 0, .slice none 0 0] 49)).alloc (.cells #[.int .i64 r, .slice none 0 0] 49) = W at hW hl1 hl2 hsz ⊢
  refine (toIntS_any sp _ W (hs.below (Flat.keeps _) hW) hn).mono ?_
  rintro e w1 ⟨v', rfl, row, hb1⟩
  have hB1 := step_ hW (Nat.le_refl _) hb1
  have hm1 := hl1.below hb1
  have hm2 := hl2.below hb1
  have hc1 := hm1.range 0 _ rfl
  have hc2 := hm1.range 1 _ rfl
  have hc3 := hm2.range 0 _ rfl
  have hc4 := hm2.range 1 _ rfl
  have hf1 := hm1.frozen
  have hf2 := hm2.frozen
  simp only [Nat.zero_add] at hc1 hc2 hc3 hc4
  obtain ⟨A', c', rfl, hc', _⟩ := row.parts
  simp only [List.length_map] at hc' row ⊢
  have ROW := Lib.hid row
  have HSZ := Lib.hid hsz
  have HB1 := Lib.hid hB1
  clear hs hn row hsz hB1 hm1 hm2 hl1 hl2 hW hc'
  go_wp2
  have hn1 : ∀ q, (Value.slice A' sp.length c').ownBlock = some q → w.heap.size + 3 ≤ q := fun q hq => by have := (ROW.out.lt q hq).1; have := HSZ.out; omega
  refine bodyPost_ret (v := .agg #[.int .i64 r, .slice A' sp.length c']) (by simp [results, Try.results52, go_sem, hc1, hc2, hc3, hc4, hf1, hf2]) rfl ⟨⟨⟨r, sp⟩, A', sp.length, c'⟩, rfl, rfl, ?_, ?_⟩
  · refine ⟨ROW.out.1, ?_⟩
    have h0 := (ROW.out.mono (base' := w.heap.size + 1) (by have := HSZ.out; omega)).2
    exact ownsRow_setCell_other (ownsRow_setCell_other (ownsRow_setCell_other h0 (fun e => by have := hn1 _ e; simp only at this; omega) _) (fun e => by have := hn1 _ e; simp only at this; omega) _) (fun e => by have := hn1 _ e; simp only at this; omega) _
  · exact ((HB1.out.setCell (by simp; omega) _).setCell (by simp) _).setCell (by simp) _

/-- Two passings whose splits lie apart. -/
def Pas.Ap (p q : Pas) : Prop := p.sv.ownBlock = none ∨ p.sv.ownBlock ≠ q.sv.ownBlock
/-- Passings of the call's own, the outer row and the inner ones all apart. -/
def PasR (base : Nat) (w : World) (v : Value) (zs : List Pas) : Prop :=
  Go.Proofs.Ytbeonigmcbipeaa.Row base 49 2 w v (zs.map Pas.lst) ∧ (∀ z ∈ zs, z.Row base w ∧ (z.sv.ownBlock = none ∨ z.sv.ownBlock ≠ v.ownBlock)) ∧ zs.Pairwise Pas.Ap
theorem Pas.Row.below {base : Nat} {w w' : World} {p : Pas} (h : p.Row base w) (hb : Below w.heap.size w w') : p.Row base w' := Go.Proofs.Ytbeonigmcbipeaa.Row.below h hb
theorem PasR.below {base : Nat} {w w' : World} {v : Value} {zs : List Pas} (h : PasR base w v zs) (hb : Below w.heap.size w w') : PasR base w' v zs :=
  ⟨h.1.below hb, fun z hz => ⟨(h.2.1 z hz).1.below hb, (h.2.1 z hz).2⟩, h.2.2⟩
theorem PasR.mono {base base' : Nat} {w : World} {v : Value} {zs : List Pas} (h : PasR base w v zs) (hb : base' ≤ base) : PasR base' w v zs :=
  ⟨h.1.mono hb, fun z hz => ⟨Go.Proofs.Ytbeonigmcbipeaa.Row.mono (h.2.1 z hz).1 hb, (h.2.1 z hz).2⟩, h.2.2⟩
theorem PasR.s {base : Nat} {w : World} {v : Value} {zs : List Pas} (h : PasR base w v zs) : PasS w v zs :=
  ⟨Sl.of_flat h.1, fun z hz => Sl.of_flat (h.2.1 z hz).1⟩

set_option maxHeartbeats 2000000 in
theorem toPassingS_any (xs : List Pas) (v : Value) (w : World) (h : PasS w v xs) (hn : xs.length ≤ 1048576) (hsp : ∀ p ∈ xs, p.k.splits.length ≤ 1048576) :
    Calls Try.prog 16 #[v] w fun e w' => ∃ v' zs, e = .returned v' ∧ zs.map Pas.k = xs.map Pas.k ∧ PasR w.heap.size w' v' zs ∧ Below w.heap.size w w' := by
  have HI := Lib.hid h.2
  have HSP := Lib.hid hsp
  obtain ⟨A, c, rfl, hc, hm, hk⟩ := h.1.open_
  clear h hsp
  go_enter Try.func16, Try.ntmps16
  go_wp2_with (at_make; refine tyPas.make rfl _ _ rfl w.heap.size xs.length _ _ rfl rfl rfl rfl (by omega) (Nat.le_refl _) ?_; intro w1 hrow1 hb1 hz1)
  go_loopw [4] (fun i wr => ∃ (k : Nat) (zs : List Pas), k ≤ xs.length ∧ zs.length = k ∧ i = .int .i64 k ∧ Hid (zs.map Pas.k = (xs.take k).map Pas.k) ∧ Row w.heap.size 49 2 wr (.slice (some ⟨w.heap.size, 0, none⟩) xs.length xs.length) (zs.map Pas.lst ++ List.replicate (xs.length - k) pasZ) ∧ Hid (∀ z ∈ zs, z.Row (w.heap.size + 1) wr) ∧ Hid (zs.Pairwise Pas.Ap) ∧ Below w.heap.size w wr ∧ w.heap.size < wr.heap.size)
    (fun i _ => xs.length - (intOf i).toNat)
  case atStart => exact ⟨0, [], Nat.zero_le _, rfl, rfl, rfl, by simpa using hrow1, fun z hz => absurd hz (by simp), List.Pairwise.nil, hb1, hz1⟩
  case round =>
    obtain ⟨k, zs, hkl, hzl, rfl, HK, hrow, HR, HP, hb, hz⟩ := hrel
    have HZL := Lib.hid hzl
    clear hzl
    by_cases hlt : k < xs.length
    · obtain ⟨b, off, rfl, hat⟩ := flat_at hk (by omega)
      have hr := rangeAt_below (hat k hlt) hb
      have hmem := List.getElem_mem hlt
      have hcall := toPassing_any xs[k] wr ((HI.out _ hmem).below hb) (HSP.out _ hmem)
      have hkm : k < (zs.map Pas.lst ++ List.replicate (xs.length - k) pasZ).length := by simp; rw [HZL.out]; omega
      have HSET := Lib.hid (show ∀ p' : Pas, (zs.map Pas.lst ++ List.replicate (xs.length - k) pasZ).set k p'.lst = (zs ++ [p']).map Pas.lst ++ List.replicate (xs.length - (k + 1)) pasZ by
        intro p'
        have e : xs.length - k = (xs.length - (k + 1)) + 1 := by omega
        rw [List.set_append_right _ _ (by simp; rw [HZL.out]; exact Nat.le_refl _), e, List.replicate_succ]
        have e2 : k - (zs.map Pas.lst).length = 0 := by simp; rw [HZL.out]; omega
        rw [e2]; simp)
      clear hat hk
      go_wp2_with (first
        | ((with_reducible refine at_load_ 53 ?_); refine Pas.loadLaws rfl _ rfl b (off + k * 2) rfl xs[k] hr ?_)
        | (go_at_call 52; refine hcall.mono ?_; rintro e w2 ⟨p', rfl, hpk, hprow, hb2⟩; have hrow2 := hrow.below hb2)
        | (refine tyPas.store rfl _ _ rfl w.heap.size w.heap.size xs.length xs.length k _ _ p'.lst hrow2 hkm rfl rfl rfl rfl p'.one ?_; intro w3 hrow3 hg3))
      have hlen2 := hb2.size
      have hne : ∀ q, p'.sv.ownBlock = some q → wr.heap.size + 1 ≤ q := fun q hq => (hprow.lt q hq).1
      have hB3 := (hb.trans (hb2.mono hb.size)).grown hg3 (Nat.le_trans hb.size hb2.size) (by simp)
      have hz3 : w.heap.size < w3.heap.size := Nat.lt_of_lt_of_le hz (Nat.le_trans hb2.size hg3.size)
      have HKK := Lib.hid hpk
      rw [HSET.out] at hrow3
      go_roundw
      case rel => exact ⟨k + 1, zs ++ [p'], by omega, by simp; exact HZL.out, by go_num, by
        show _ = _
        rw [List.take_succ_eq_append_getElem hlt, List.map_append, List.map_append, HK.out]
        simp [HKK.out], hrow3, by
        intro z hz'
        rcases List.mem_append.1 hz' with hz' | hz'
        · have h1 := (HR.out z hz').below hb2
          exact Row.kept h1 hg3 (.inr (fun e => by have := (h1.lt _ e).1; omega))
        · rw [List.mem_singleton.1 hz']
          have h1 : Pas.Row (w.heap.size + 1) w2 p' := Row.mono hprow (by omega)
          exact Row.kept h1 hg3 (.inr (fun e => by have := (h1.lt _ e).1; omega)), by
        refine List.pairwise_append.2 ⟨HP.out, by simp, fun z hz' q hq => ?_⟩
        rw [List.mem_singleton.1 hq]
        refine (Classical.em (z.sv.ownBlock = none)).elim .inl fun hnn => .inr fun e => ?_
        obtain ⟨g, hg⟩ := Option.ne_none_iff_exists'.1 hnn
        have h1 := ((HR.out z hz').lt g hg).2
        have h2 := hne g (e ▸ hg)
        omega, hB3, hz3⟩
      case measure => simp [intOf]; omega
    · go_wp2
      go_ret
      obtain rfl : k = xs.length := by omega
      have e0 : xs.length - xs.length = 0 := by omega
      rw [e0, List.replicate_zero, List.append_nil] at hrow
      refine ⟨_, zs, rfl, by rw [HK.out, List.take_length], ⟨hrow, fun z hz' => ⟨Row.mono (HR.out z hz') (by omega), .inr (fun e => by have := ((HR.out z hz').lt _ e).1; simp only at this; omega)⟩, HP.out⟩, hb⟩

set_option maxHeartbeats 1000000 in
theorem eqPassing_refl (p q : Pas) (w : World) (hk : p.k = q.k) (hp : p.In w) (hq : q.In w) :
    Calls Try.prog 55 #[p.val, q.val] w fun e w' => e = .returned (.bool true) ∧ Below w.heap.size w w' := by
  obtain ⟨⟨r, sp⟩, A, n, c⟩ := p
  obtain ⟨⟨r', sp'⟩, A', n', c'⟩ := q
  simp only [PK.mk.injEq] at hk
  obtain ⟨rfl, rfl⟩ := hk
  have h1 : Sl (Flat ints) 1 w (.slice A n c) sp := hp
  have h2 : Sl (Flat ints) 1 w (.slice A' n' c') sp := hq
  show Calls Try.prog 55 #[.agg #[.int .i64 r, .slice A n c], .agg #[.int .i64 r, .slice A' n' c']] w _
  have HC := Lib.hid (fun W (hW : Below w.heap.size w W) => eqIntS_refl sp _ _ W (h1.below (Flat.keeps _) hW) (h2.below (Flat.keeps _) hW))
  have hW : Below w.heap.size w ((w.alloc (.cells #[.int .i64 r, .slice A n c] 49)).alloc (.cells #[.int .i64 r, .slice A' n' c'] 49)) := by (repeat (first | exact Below.refl _ _ | assumption | refine Below.drew ?_ | refine Below.alloc ?_ (by first | exact Nat.le_refl _ | (simp; done) | (simp; omega)) _))
  clear hp hq h1 h2
  go_enter Try.func55, Try.ntmps55
  go_wp2_with (go_at_call 31; refine (HC.out _ hW).mono ?_; rintro e w1 ⟨rfl, hb1⟩)
  go_ret
  exact ⟨rfl, step_ hW (Nat.le_refl _) hb1⟩

set_option maxHeartbeats 1000000 in
theorem eqPassingS_refl (ps qs : List Pas) (v v' : Value) (w : World) (h : PasS w v ps) (h' : PasS w v' qs) (hkk : ps.map Pas.k = qs.map Pas.k) :
    Calls Try.prog 18 #[v, v'] w fun e w' => e = .returned (.bool true) ∧ Below w.heap.size w w' := by
  have hl : ps.length = qs.length := by have := congrArg List.length hkk; simpa using this
  have HKE := Lib.hid (show ∀ k (h1 : k < ps.length) (h2 : k < qs.length), ps[k].k = qs[k].k by
    intro k h1 h2
    have : (ps.map Pas.k)[k]? = (qs.map Pas.k)[k]? := by rw [hkk]
    simpa [h1, h2] using this)
  have HI := Lib.hid h.2
  have HI' := Lib.hid h'.2
  obtain ⟨A, c, rfl, hc, hm, hk⟩ := h.1.open_
  obtain ⟨A', c', rfl, hc', hm', hk'⟩ := h'.1.open_
  have HL := Lib.hid hl
  obtain ⟨n, hn⟩ : ∃ n, qs.length = n := ⟨_, rfl⟩
  have HN := Lib.hid hn
  have hpn : ps.length = n := by rw [hl, hn]
  rw [hn] at hc'
  rw [hpn] at hc
  clear h h' hkk hl
  rw [hn, hpn]
  have HP := Lib.hid hpn
  clear hn hpn
  go_enter Try.func18, Try.ntmps18
  go_wp2
  go_loopw [5] (fun i wr => ∃ k : Nat, k ≤ n ∧ i = .int .i64 k ∧ Below w.heap.size w wr)
    (fun i _ => n - (intOf i).toNat)
  case atStart => exact ⟨0, Nat.zero_le _, rfl, Below.refl _ _⟩
  case round =>
    obtain ⟨k, hkl, rfl, hb⟩ := hrel
    by_cases hlt : k < n
    · have hlp : k < ps.length := by rw [HP.out]; exact hlt
      have hlq : k < qs.length := by rw [HN.out]; exact hlt
      obtain ⟨b, off, rfl, hat⟩ := flat_at hk (by omega)
      obtain ⟨b', off', rfl, hat'⟩ := flat_at hk' (by omega)
      have hr := rangeAt_below (hat k hlp) hb
      have hr' := rangeAt_below (hat' k hlq) hb
      have HC := Lib.hid (fun (s : After wr) => eqPassing_refl ps[k] qs[k] s.w' (HKE.out k hlp hlq) (((HI.out _ (List.getElem_mem hlp)).below hb).below s.hb) (((HI'.out _ (List.getElem_mem hlq)).below hb).below s.hb))
      clear hat hat' hk hk'
      go_wp2
      refine region_after (by kernel_rfl) (by kernel_rfl) ?_
      repeat (any_goals (first | go_big_quiet_step (((go_at_call 55; exact Calls.after (v := .bool true) _ (HC.out _)))) | (refine Pas.qloadImpl rfl _ rfl b (off + k * 2) rfl ps[k] hr ?_) | (refine Pas.qloadImpl rfl _ rfl b' (off' + k * 2) rfl qs[k] hr' ?_) | quiet_step (((go_at_call 55; exact Calls.after (v := .bool true) _ (HC.out _)))) | (refine wpQuiet_step (fun K hK => ?_); go_simp; split <;> (refine hK _ ?_; clear hK K))))
      all_goals (refine wpQuiet_nil ?_; intro s)
      go_wp2
      go_roundw
      case rel => exact ⟨k + 1, by omega, by go_num, step_ hb (Nat.le_refl _) s.hb⟩
      case measure => simp [intOf]; omega
    · go_wp2
      go_ret
      exact ⟨rfl, hb⟩
end Go.Proofs.Ytbeonigmcbipeaa
