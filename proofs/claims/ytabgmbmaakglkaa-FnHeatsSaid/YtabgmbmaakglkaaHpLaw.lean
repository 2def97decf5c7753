/- The walk of the law FnHeats: it returns true. No condition. -/
import Derived.Test.YtabgmbmaakglkaaHtO
import Derived.Test.YtabgmbmaakglkaaSgB
import Derived.Test.YtabgmbmaakglkaaHtH
import Derived.Test.YtabgmbmaakglkaaGpA
import Derived.Test.YtabgmbmaakglkaaDrHe
import Derived.Test.YtabgmbmaakglkaaHpQ
import Derived.Test.YtabgmbmaakglkaaByte
import Derived.Deep.LoopGhost
import Derived.Deep.CutBlock
import Derived.Deep.DeepCutAuto
namespace Go.Proofs.Ytabgmbmaakglkaa
open Go Go.RowKit

theorem heat_cells {w : World} {g : Nat} {p : Ht} (h : LitAt w g 28 p.lst) : w.cell? ⟨g, 0, none⟩ = some (.slice p.a p.n p.c) ∧ w.cell? ⟨g, 1, none⟩ = some (.slice p.b p.m p.d) := by
  have r := h.range
  have b0 := r 0 _ rfl
  have b1 := r 1 _ rfl
  simp only [Nat.zero_add] at b0 b1
  exact ⟨b0, b1⟩
theorem heat_range {w : World} {g : Nat} {p : Ht} (h : LitAt w g 28 p.lst) : w.rangeAt g 0 p.lst := h.range
theorem placing_gap2 (h : HK) : ∀ i (hi : i < (plV h).length) (h1 : i - 1 < (plV h).length), 0 < i → gapB h (plV h)[i - 1] (plV h)[i] = true ∧ 0 < gapV h (plV h)[i - 1] (plV h)[i] := fun i hi h1 h0 =>
  placing_gap (by cases g : goodH h with | true => rfl | false => rw [plV_no g] at hi; exact absurd hi (by simp)) hi h0 h1
theorem going_few {ks : List HK} {d l : Int} {n : Nat} (hn : ks.length = n) (h6 : n ≤ 6) (h : askG ks d l = true) : ∃ P : Int, IntKind.i64.wrap (d * (n : Int)) = P ∧ ¬ (P < ((goF ks d l).length : Int)) ∧ ¬ (l < ((goL ks d l).length : Int)) := by
  subst hn
  have h1 := goF_few h
  have h2 := goL_few h
  obtain ⟨_, ⟨hd1, hd3⟩, _⟩ := askG_parts h
  have e : ((d.toNat * ks.length : Nat) : Int) = d * (ks.length : Int) := by
    rw [Int.natCast_mul, Int.toNat_of_nonneg (by omega)]
  have h3 : d.toNat * ks.length ≤ 3 * 6 := Nat.mul_le_mul (by omega) h6
  exact ⟨d * (ks.length : Int), by rw [IntKind.wrap_i64]; omega, by omega, by omega⟩
theorem going_no {ks : List HK} {d l : Int} : ∀ i (h : i < (goL ks d l).length), decide ((goL ks d l)[i] ∈ goF ks d l) = false ∧ decide ((goL ks d l)[i] ∈ (goL ks d l).take i) = false := fun i h => by
  have h1 := goL_not_first h
  have h2 := goL_not_before h
  rw [any_dec] at h1 h2
  exact ⟨h1, h2⟩
theorem lim_len {ks : List HK} {d l : Int} (ht : limB ks d l = true) {b : Nat} (hb : b < ks.length) : ks[b].times.length = ks[b].runners.length := by
  have hpos : 0 < (gL ks d l).length := by simpa [limB] using ht
  have ha : askG ks d l = true := by
    cases h : askG ks d l with
    | true => rfl
    | false => rw [gL_no h] at hpos; simp at hpos
  have hg := goodR_iff.1 (askG_parts ha).1
  exact (hg.1 _ (List.getElem_mem hb)).2.1
theorem lim_all (xs : List Ht) (d l : Int) : limB (xs.map Ht.k) d l = true → ∀ b (hb : b < xs.length), xs[b].k.times.length = xs[b].k.runners.length ∧
    ∀ k (hk : k < xs[b].k.runners.length) (hkt : k < xs[b].k.times.length), decide (xs[b].k.runners[k] ∈ goL (xs.map Ht.k) d l) = true → xs[b].k.times[k] ≤ limV (xs.map Ht.k) d l := fun ht b hb => by
  have hb' : b < (xs.map Ht.k).length := by simpa using hb
  have e : (xs.map Ht.k)[b] = xs[b].k := by simp
  have h1 := lim_len ht hb'
  rw [e] at h1
  refine ⟨h1, fun k hk hkt hm => ?_⟩
  have h2 := limit_ok (k := k) ht hb' (by rw [e]; exact hk) (by rw [e]; exact hkt)
  simp only [e] at h2
  rw [any_dec] at h2
  exact h2 hm
set_option maxRecDepth 100000 in
set_option maxHeartbeats 16000000 in
theorem fnHeats_walk (v0 : Value) (m : Nat) (w : World) (h0 : CodeS w v0 m) :
    Calls Try.prog 8 #[v0] w fun e w' => e = .returned (.bool true) ∧ Below w.heap.size w w' := by
  obtain ⟨q, hq⟩ : ∃ q, q = decide (65536 < m) := ⟨_, rfl⟩
  have HC := Lib.hid h0
  have HV := Lib.hid (rBig_any v0 m q w h0 hq)
  have HB := Lib.hid (Below.refl w.heap.size w)
  clear hq h0
  cases q with
  | true =>
    go_enter Try.func8, Try.ntmps8
    go_wp2_with fail
    refine (HV.out).mono ?_
    rintro e w' ⟨rfl, hb⟩
    replace HB := Lib.hid (step_ HB.out (Nat.le_refl _) hb)
    go_wp2_with fail
    go_ret
    exact ⟨rfl, HB.out⟩
  | false =>
    go_enter Try.func8, Try.ntmps8
    go_wp2_with fail
    refine (HV.out).mono ?_
    rintro e w' ⟨rfl, hb⟩
    replace HB := Lib.hid (step_ HB.out (Nat.le_refl _) hb)
    clear hb HV
    go_wp2_with fail
    refine (draw_PlacingOf v0 m _ (HC.out.below HB.out)).mono ?_
    rintro e w' ⟨p, rfl, hin, _, _, hb⟩
    replace HB := Lib.hid (step_ HB.out (Nat.le_refl _) hb)
    have HP1 := Lib.hid (show ∀ W, p.In W → _ from fun W hW => impl_PlacingOf p p.k W rfl hW)
    have HP2 := Lib.hid (show ∀ W, p.In W → _ from fun W hW => spec_PlacingOf p p.k W rfl hW)
    have HP3 := Lib.hid (show ∀ W, p.In W → _ from fun W hW => IsHeat_any p W hW)
    have HF := Lib.hid (placing_gap2 p.k)
    have HPL := Lib.hid (plV_len p.k)
    generalize goodH p.k = gk at HP1 HP2 HP3
    generalize plV p.k = pl at HP1 HP2 HF HPL
    have hal : Below w'.heap.size w' (w'.alloc (.cells #[.slice p.a p.n p.c, .slice p.b p.m p.d] 28)) := below_alloc (Below.refl _ _) _
    have HX := Lib.hid (show LitAt (w'.alloc (.cells #[.slice p.a p.n p.c, .slice p.b p.m p.d] 28)) w'.heap.size 28 p.lst from LitAt.new w' 28 p.lst w'.heap.size rfl)
    have HI := Lib.hid (hin.below hal)
    replace HB := Lib.hid (step_ HB.out (Nat.le_refl _) hal)
    clear hb hin hal
    go_upto_region 4 with fail
    generalize w'.alloc (.cells #[.slice p.a p.n p.c, .slice p.b p.m p.d] 28) = W1 at *
    generalize w'.heap.size = b3 at *
    obtain ⟨a0, a1⟩ := heat_cells HX.out
    go_wp2_with fail
    refine (HP1.out _ HI.out).mono ?_
    rintro e w' ⟨r1, rfl, row1, hb⟩
    replace HB := Lib.hid (step_ HB.out (Nat.le_refl _) hb)
    replace HX := Lib.hid (HX.out.below hb)
    replace HI := Lib.hid (HI.out.below hb)
    have HR1 := Lib.hid (Sl.of_flat row1)
    clear row1 hb a0 a1 HP1
    obtain ⟨a0, a1⟩ := heat_cells HX.out
    go_wp2_with fail
    refine (HP2.out _ HI.out).mono ?_
    rintro e w' ⟨r2, rfl, row2, hb⟩
    replace HB := Lib.hid (step_ HB.out (Nat.le_refl _) hb)
    replace HX := Lib.hid (HX.out.below hb)
    replace HI := Lib.hid (HI.out.below hb)
    replace HR1 := Lib.hid (Sl.below (Flat.keeps _) HR1.out hb)
    have HE := Lib.hid (rInts_refl pl r1 r2 _ HR1.out (Sl.of_flat row2))
    clear row2 hb a0 a1 HP2
    go_upto_region 6 with fail
    go_cut [62] (fun b wx => b = .bool false ∧ Hid (Below w.heap.size w wx) ∧ Hid (LitAt wx b3 28 p.lst) ∧ Hid (p.In wx) ∧ Hid (Sl (Flat ints) 1 wx r1 pl))
    case first => as_aux_lemma =>
      cases gk with
      | false =>
        go_wp2_with fail
        refine (HE.out).mono ?_
        rintro e w' ⟨rfl, hb⟩
        replace HB := Lib.hid (step_ HB.out (Nat.le_refl _) hb)
        replace HX := Lib.hid (HX.out.below hb)
        replace HI := Lib.hid (HI.out.below hb)
        replace HR1 := Lib.hid (Sl.below (Flat.keeps _) HR1.out hb)
        clear hb
        obtain ⟨a0, a1⟩ := heat_cells HX.out
        go_wp2_with fail
        refine (HP3.out _ HI.out).mono ?_
        rintro e w' ⟨rfl, hb⟩
        replace HB := Lib.hid (step_ HB.out (Nat.le_refl _) hb)
        replace HX := Lib.hid (HX.out.below hb)
        replace HI := Lib.hid (HI.out.below hb)
        replace HR1 := Lib.hid (Sl.below (Flat.keeps _) HR1.out hb)
        clear hb a0 a1
        go_wp2_with fail
        go_meet
        exact ⟨rfl, HB, HX, HI, HR1⟩
      | true =>
        go_wp2_with fail
        refine (HE.out).mono ?_
        rintro e w' ⟨rfl, hb⟩
        replace HB := Lib.hid (step_ HB.out (Nat.le_refl _) hb)
        replace HX := Lib.hid (HX.out.below hb)
        replace HI := Lib.hid (HI.out.below hb)
        replace HR1 := Lib.hid (Sl.below (Flat.keeps _) HR1.out hb)
        clear hb
        obtain ⟨a0, a1⟩ := heat_cells HX.out
        go_wp2_with fail
        refine (HP3.out _ HI.out).mono ?_
        rintro e w' ⟨rfl, hb⟩
        replace HB := Lib.hid (step_ HB.out (Nat.le_refl _) hb)
        replace HX := Lib.hid (HX.out.below hb)
        replace HI := Lib.hid (HI.out.below hb)
        replace HR1 := Lib.hid (Sl.below (Flat.keeps _) HR1.out hb)
        clear hb a0 a1
        go_wp2_with fail
        go_meet
        exact ⟨rfl, HB, HX, HI, HR1⟩
    case rest =>
      clear HB HX HI HR1 HE HP3
      obtain ⟨rfl, HB, HX, HI, HR1⟩ := hcut
      obtain ⟨A1, c1, rfl, hc1, hm1, hk1⟩ := HR1.out.open_
      have HK1 := Lib.hid hk1
      have hpl := HPL.out
      clear HR1 hk1 HPL
      go_upto_block 0 with fail
      go_cut [] (fun wx => Hid (Below w.heap.size w wx))
      case first => as_aux_lemma =>
        go_wp2_with fail
        go_loopw [8] (fun i wr => ∃ k : Nat, 1 ≤ k ∧ k ≤ pl.length + 1 ∧ i = .int .i64 k ∧ Hid (Below w.heap.size w wr) ∧ Below wc.heap.size wc wr)
          (fun i _ => pl.length + 1 - (intOf i).toNat)
        case atStart => exact ⟨1, Nat.le_refl _, by omega, rfl, HB, Below.refl _ _⟩
        case round =>
          clear HB
          obtain ⟨k, hk0, hkl, rfl, HB, hb'⟩ := hrel
          by_cases hlt : k < pl.length
          · obtain ⟨b, off, rfl, hat⟩ := flat_at HK1.out (by omega)
            obtain ⟨i, hi⟩ : ∃ i, k = i + 1 := ⟨k - 1, by omega⟩
            have hil : i < pl.length := by omega
            have hcx := After.keep (int_at (rangeAt_below (hat k hlt) hb'))
            have hcy := After.keep (int_at (rangeAt_below (hat i hil) hb'))
            rw [Nat.mul_one] at hcx hcy
            have hj1 : k - 1 < pl.length := by omega
            have HG0 := HF.out k hlt hj1 (by omega)
            have hej : pl[k - 1] = pl[i] := by congr 1; omega
            rw [hej] at HG0
            have HIw := HI.out.below hb'
            generalize pl[k] = x at hcx HG0
            generalize pl[i] = y at hcy HG0
            have HG := Lib.hid (show ∀ t : After wr, Calls Try.prog 38 #[.agg #[.slice p.a p.n p.c, .slice p.b p.m p.d], .int .i64 y, .int .i64 x] t.w' fun e w' => e = .returned (.tuple #[.int .i64 (gapV p.k y x), .bool (gapB p.k y x)]) ∧ Below t.w'.heap.size t.w' w' from fun t => impl_GapIn p y x t.w' (HIw.below t.hb))
            rw [HG0.1] at HG
            have hgv := HG0.2
            generalize gapV p.k y x = gv at HG hgv
            have hrg := heat_range (HX.out.below hb')
            have hwr : IntKind.i64.wrap ((k : Int) - 1) = (i : Int) := by rw [IntKind.wrap_i64]; omega
            have hz1 : (0 : Int) ≤ (i : Int) := by omega
            have hz2 : (i : Int) < (pl.length : Int) := by omega
            have hgv2 : ¬ (gv ≤ 0) := by omega
            clear hat hej HG0 HIw hi hj1
            go_wp2
            refine region_after (by kernel_rfl) (by kernel_rfl) ?_
            repeat (any_goals (first | go_big_quiet_step ((go_at_call 38; with_reducible exact Calls.after (v := .tuple #[.int .i64 gv, .bool true]) _ (HG.out _))) | (refine Ht.qloadImpl rfl _ rfl b3 0 rfl p hrg ?_) | quiet_step ((go_at_call 38; with_reducible exact Calls.after (v := .tuple #[.int .i64 gv, .bool true]) _ (HG.out _))) | (refine wpQuiet_step (fun K hK => ?_); go_simp; split <;> (refine hK _ ?_; clear hK K))))
            all_goals (refine wpQuiet_nil ?_; intro s)
            go_wp2
            go_roundw
            case rel => exact ⟨k + 1, by omega, by omega, by go_num, Lib.hid (step_ HB.out (Nat.le_refl _) s.hb), step_ hb' (Nat.le_refl _) s.hb⟩
            case measure => simp [intOf]; omega
          · go_wp2_with fail
            go_meet
            exact HB
      case rest =>
        clear HB HX HI HK1 HF hc1 hm1 hpl
        have HB := hcut
        clear hcut
        go_wp2_with fail
        refine (draw_GoingOn v0 m _ (HC.out.below HB.out)).mono ?_
        rintro e w' ⟨v, xs, d, l, rfl, hs, hxl, _, hd, hl, hb⟩
        replace HB := Lib.hid (step_ HB.out (Nat.le_refl _) hb)
        have HS := Lib.hid hs
        have hid : I64 d := by unfold I64; omega
        have hil : I64 l := by unfold I64; omega
        have HGI := Lib.hid (show ∀ W, HtS W v xs → _ from fun W hW => impl_GoingOn xs (xs.map Ht.k) v d l W rfl hW (by omega) hid hil)
        have HGJ := Lib.hid (show ∀ W, HtS W v xs → _ from fun W hW => spec_GoingOn xs (xs.map Ht.k) v d l W rfl hW (by omega) hid hil)
        have HLI := Lib.hid (show ∀ W, HtS W v xs → _ from fun W hW => impl_LuckyLimit xs (xs.map Ht.k) v d l W rfl hW (by omega) hid hil)
        have HLJ := Lib.hid (show ∀ W, HtS W v xs → _ from fun W hW => spec_LuckyLimit xs (xs.map Ht.k) v d l W rfl hW (by omega) hid hil)
        have HF1 := Lib.hid (going_few (ks := xs.map Ht.k) (d := d) (l := l) (n := xs.length) (by simp) hxl)
        have HF2 := Lib.hid (going_no (ks := xs.map Ht.k) (d := d) (l := l))
        have HF3 := Lib.hid (goL_told (xs.map Ht.k) d l)
        have HF4 := Lib.hid (lim_all xs d l)
        have HL2 := Lib.hid (goL_len (xs.map Ht.k) d l)
        generalize askG (xs.map Ht.k) d l = ok at HGI HGJ HF1
        generalize goF (xs.map Ht.k) d l = f at HGI HGJ HF1 HF2
        generalize goL (xs.map Ht.k) d l = s at HGI HGJ HF1 HF2 HF3 HF4 HL2
        generalize limB (xs.map Ht.k) d l = lb at HLI HLJ HF3 HF4
        generalize limV (xs.map Ht.k) d l = lv at HLI HLJ HF4
        clear hs hb hd hl hid hil
        go_wp2_with fail
        refine (HGI.out _ HS.out).mono ?_
        rintro e w' ⟨r1, r2, rfl, row1, row2, _, hb⟩
        replace HB := Lib.hid (step_ HB.out (Nat.le_refl _) hb)
        replace HS := Lib.hid (HS.out.below hb)
        have HR1 := Lib.hid (Sl.of_flat row1)
        have HR2 := Lib.hid (Sl.of_flat row2)
        clear row1 row2 hb HGI
        go_wp2_with fail
        refine (HGJ.out _ HS.out).mono ?_
        rintro e w' ⟨r3, r4, rfl, row3, row4, _, hb⟩
        replace HB := Lib.hid (step_ HB.out (Nat.le_refl _) hb)
        replace HS := Lib.hid (HS.out.below hb)
        replace HR1 := Lib.hid (Sl.below (Flat.keeps _) HR1.out hb)
        replace HR2 := Lib.hid (Sl.below (Flat.keeps _) HR2.out hb)
        have HE1 := Lib.hid (rInts_refl f r1 r3 _ HR1.out (Sl.of_flat row3))
        have HR4 := Lib.hid (Sl.of_flat row4)
        clear row3 row4 hb HGJ
        go_upto_region 17 with fail
        go_cut [125] (fun b wx => b = .bool false ∧ Hid (Below w.heap.size w wx) ∧ Hid (HtS wx v xs) ∧ Hid (Sl (Flat ints) 1 wx r1 f) ∧ Hid (Sl (Flat ints) 1 wx r2 s))
        case first => as_aux_lemma =>
          cases ok with
          | false =>
            go_wp2_with fail
            refine (HE1.out).mono ?_
            rintro e w' ⟨rfl, hb⟩
            replace HB := Lib.hid (step_ HB.out (Nat.le_refl _) hb)
            replace HS := Lib.hid (HS.out.below hb)
            replace HR1 := Lib.hid (Sl.below (Flat.keeps _) HR1.out hb)
            replace HR2 := Lib.hid (Sl.below (Flat.keeps _) HR2.out hb)
            replace HR4 := Lib.hid (Sl.below (Flat.keeps _) HR4.out hb)
            have HE2 := Lib.hid (rInts_refl s r2 r4 _ HR2.out HR4.out)
            clear hb HE1
            go_wp2_with fail
            refine (HE2.out).mono ?_
            rintro e w' ⟨rfl, hb⟩
            replace HB := Lib.hid (step_ HB.out (Nat.le_refl _) hb)
            replace HS := Lib.hid (HS.out.below hb)
            replace HR1 := Lib.hid (Sl.below (Flat.keeps _) HR1.out hb)
            replace HR2 := Lib.hid (Sl.below (Flat.keeps _) HR2.out hb)
            clear hb
            go_wp2_with fail
            go_meet
            exact ⟨rfl, HB, HS, HR1, HR2⟩
          | true =>
            go_wp2_with fail
            refine (HE1.out).mono ?_
            rintro e w' ⟨rfl, hb⟩
            replace HB := Lib.hid (step_ HB.out (Nat.le_refl _) hb)
            replace HS := Lib.hid (HS.out.below hb)
            replace HR1 := Lib.hid (Sl.below (Flat.keeps _) HR1.out hb)
            replace HR2 := Lib.hid (Sl.below (Flat.keeps _) HR2.out hb)
            replace HR4 := Lib.hid (Sl.below (Flat.keeps _) HR4.out hb)
            have HE2 := Lib.hid (rInts_refl s r2 r4 _ HR2.out HR4.out)
            clear hb HE1
            go_wp2_with fail
            refine (HE2.out).mono ?_
            rintro e w' ⟨rfl, hb⟩
            replace HB := Lib.hid (step_ HB.out (Nat.le_refl _) hb)
            replace HS := Lib.hid (HS.out.below hb)
            replace HR1 := Lib.hid (Sl.below (Flat.keeps _) HR1.out hb)
            replace HR2 := Lib.hid (Sl.below (Flat.keeps _) HR2.out hb)
            clear hb
            go_wp2_with fail
            go_meet
            exact ⟨rfl, HB, HS, HR1, HR2⟩
        case rest =>
          clear HB HS HR1 HR2 HR4 HE1
          obtain ⟨rfl, HB, HS, HR1, HR2⟩ := hcut
          obtain ⟨A1, c1, rfl, hc1, hm1, -⟩ := HR1.out.open_
          obtain ⟨A2, c2, rfl, hc2, hm2, hk2⟩ := HR2.out.open_
          obtain ⟨A, c, rfl, hc, hm, hk⟩ := HS.out.1.open_
          have HK2 := Lib.hid hk2
          have HK := Lib.hid hk
          clear hk2 hk
          go_upto_region 19 with fail
          go_cut [141] (fun b wx => b = .bool false ∧ wc = wx)
          case first => as_aux_lemma =>
            cases ok with
            | false =>
              go_wp2_with fail
              go_meet
              exact ⟨rfl, rfl⟩
            | true =>
              obtain ⟨P, hP, hf1, hf2⟩ := HF1.out rfl
              have HE := Lib.hid (show Value.bool (decide (P < (f.length : Int)) || decide (l < (s.length : Int))) = Value.bool false by rw [decide_eq_false (p := P < (f.length : Int)) (by omega), decide_eq_false (p := l < (s.length : Int)) (by omega)]; rfl)
              go_wp2_with fail
              go_meet
              exact ⟨HE.out, rfl⟩
          case rest =>
            obtain ⟨rfl, rfl⟩ := hcut
            clear HF1
            go_upto_block 2 with fail
            go_cut [] (fun wx => Hid (Below w.heap.size w wx) ∧ Hid (HtS wx (.slice A xs.length c) xs) ∧ Hid (Sl (Flat ints) 1 wx (.slice A2 s.length c2) s))
            case first => as_aux_lemma =>
              have hs2 := HL2.out
              go_wp2_with fail
              go_loopw [20] (fun i wr => ∃ k : Nat, k ≤ s.length ∧ i = .int .i64 k ∧ Hid (Below w.heap.size w wr) ∧ Below wc.heap.size wc wr)
                (fun i _ => s.length - (intOf i).toNat)
              case atStart => exact ⟨0, Nat.zero_le _, rfl, HB, Below.refl _ _⟩
              case round =>
                clear HB
                obtain ⟨k, hkl, rfl, HB, hb'⟩ := hrel
                by_cases hlt : k < s.length
                · have HQ0 := HF2.out k hlt
                  have HFR := Lib.hid (Sl.front (HR2.out.below (Flat.keeps _) hb') (k := k) hkl)
                  have HR1w := Lib.hid (HR1.out.below (Flat.keeps _) hb')
                  obtain ⟨b, off, rfl, hat⟩ := flat_at HK2.out (by omega)
                  have hcx := After.keep (int_at (rangeAt_below (hat k hlt) hb'))
                  rw [Nat.mul_one] at hcx
                  have HQ1 := Lib.hid (show ∀ t : After wr, _ from fun t => rHas_any f s[k] (.slice A1 f.length c1) t.w' (HR1w.out.below (Flat.keeps _) t.hb))
                  have HQ2 := Lib.hid (show ∀ t : After wr, _ from fun t => rHas_any (s.take k) s[k] (.slice (some ⟨b, off, none⟩) k c2) t.w' (HFR.out.below (Flat.keeps _) t.hb))
                  rw [HQ0.1] at HQ1
                  rw [HQ0.2] at HQ2
                  generalize s[k] = x at hcx HQ1 HQ2
                  have hz1 : (0 : Int) ≤ (k : Int) := by omega
                  have hz2 : (k : Int) < (s.length : Int) := by omega
                  clear hat HQ0 HFR HR1w
                  go_wp2
                  refine region_after (by kernel_rfl) (by kernel_rfl) ?_
                  repeat (any_goals (first | go_big_quiet_step ((first | (go_at_call 40; with_reducible exact Calls.after (v := .bool false) _ (HQ1.out _)) | (go_at_call 40; with_reducible exact Calls.after (v := .bool false) _ (HQ2.out _))))  | quiet_step ((first | (go_at_call 40; with_reducible exact Calls.after (v := .bool false) _ (HQ1.out _)) | (go_at_call 40; with_reducible exact Calls.after (v := .bool false) _ (HQ2.out _)))) | (refine wpQuiet_step (fun K hK => ?_); go_simp; split <;> (refine hK _ ?_; clear hK K))))
                  all_goals (refine wpQuiet_nil ?_; intro s)
                  all_goals go_wp2
                  go_roundw
                  case rel => exact ⟨k + 1, by omega, by go_num, Lib.hid (step_ HB.out (Nat.le_refl _) s.hb), step_ hb' (Nat.le_refl _) s.hb⟩
                  case measure => simp [intOf]; omega
                · go_wp2_with fail
                  go_meet
                  exact ⟨HB, Lib.hid (HS.out.below hb'), Lib.hid (HR2.out.below (Flat.keeps _) hb')⟩
            case rest =>
              clear HB HS HR2 HR1 HK2 HK hc1 hm1 HF2
              obtain ⟨HB, HS, HR2⟩ := hcut
              go_wp2_with fail
              refine (HLI.out _ HS.out).mono ?_
              rintro e w' ⟨rfl, hb⟩
              replace HB := Lib.hid (step_ HB.out (Nat.le_refl _) hb)
              replace HS := Lib.hid (HS.out.below hb)
              replace HR2 := Lib.hid (Sl.below (Flat.keeps _) HR2.out hb)
              clear hb HLI
              go_wp2_with fail
              refine (HLJ.out _ HS.out).mono ?_
              rintro e w' ⟨rfl, hb⟩
              replace HB := Lib.hid (step_ HB.out (Nat.le_refl _) hb)
              replace HS := Lib.hid (HS.out.below hb)
              replace HR2 := Lib.hid (Sl.below (Flat.keeps _) HR2.out hb)
              clear hb HLJ
              have hs2 := HL2.out
              generalize w' = W0 at *
              go_upto_region 28 with fail
              go_cut [192] (fun b wx => b = .bool false ∧ W0 = wx)
              case first => as_aux_lemma =>
                cases lb with
                | false =>
                  have HZ := Lib.hid (show decide ((0 : Int) < (s.length : Int)) = false from HF3.out.symm)
                  clear HF3 HF4
                  go_wp2_with fail
                  go_meet
                  exact ⟨by have h9 := HZ.out; first | (simp only [h9]; rfl) | (simp at h9; simp [h9]; done) | (simp at h9 ⊢; first | exact h9 | omega), rfl⟩
                | true =>
                  have HZ := Lib.hid (show decide ((0 : Int) < (s.length : Int)) = true from HF3.out.symm)
                  clear HF3 HF4
                  go_wp2_with fail
                  go_meet
                  exact ⟨by have h9 := HZ.out; first | (simp only [h9]; rfl) | (simp at h9; simp [h9]; done) | (simp at h9 ⊢; first | exact h9 | omega), rfl⟩
              case rest =>
                obtain ⟨rfl, rfl⟩ := hcut
                clear HF3
                obtain ⟨A', c', hv, -, -, hk⟩ := HS.out.1.open_
                simp only [Value.slice.injEq] at hv
                obtain ⟨rfl, -, rfl⟩ := hv
                have HK := Lib.hid hk
                have HIN := Lib.hid HS.out.2
                clear hk
                go_upto_block 4 with fail
                go_cut [] (fun wx => Hid (Below w.heap.size w wx))
                case first => as_aux_lemma =>
                  go_wp2_with fail
                  go_loopw [25] (fun i wr => ∃ k : Nat, k ≤ xs.length ∧ i = .int .i64 k ∧ Hid (Below w.heap.size w wr) ∧ Below W0.heap.size W0 wr)
                    (fun i _ => xs.length - (intOf i).toNat)
                  case atStart => exact ⟨0, Nat.zero_le _, rfl, HB, Below.refl _ _⟩
                  case round =>
                    clear HB
                    obtain ⟨k, hkl, rfl, HB, hb'⟩ := hrel
                    by_cases hlt : k < xs.length
                    · cases lb with
                      | false =>
                        go_wp2_with fail
                        go_meet
                        exact HB
                      | true =>
                        obtain ⟨hle, hok⟩ := HF4.out rfl k hlt
                        obtain ⟨b, off, rfl, hat⟩ := flat_at HK.out (by omega)
                        have hr0 := rangeAt_below (hat k hlt) hb'
                        have hin := HIN.out _ (List.getElem_mem hlt)
                        have hpl := hin.len
                        generalize xs[k] = p at hle hok hr0 hin hpl
                        obtain ⟨⟨rs, ts⟩, B, n, e, D, o, g⟩ := p
                        simp only at hle hok hpl
                        obtain ⟨rfl, rfl⟩ := hpl
                        have HR0 := Lib.hid hr0
                        have HIP := Lib.hid hin
                        have HOK := Lib.hid hok
                        have HLE := Lib.hid hle
                        clear hat hr0 hin hok hle
                        obtain ⟨e0, e1⟩ := Ht.cells HR0.out
                        simp only at e0 e1
                        have HCI := Lib.hid (show ∀ W, Below wr.heap.size wr W → W.cell? ⟨b, off + k * 2, none⟩ = some (.slice B rs.length e) ∧ W.cell? ⟨b, off + k * 2 + 1, none⟩ = some (.slice D ts.length g) from fun W hW => Ht.cells (p := ⟨⟨rs, ts⟩, B, rs.length, e, D, ts.length, g⟩) (rangeAt_below HR0.out hW))
                        obtain ⟨wo, rfl⟩ : ∃ wo : World, wo = wr := ⟨_, rfl⟩
                        go_wp2_with fail
                        go_loopw [26] (fun j wi => ∃ i : Nat, i ≤ rs.length ∧ j = .int .i64 i ∧ Hid (Below w.heap.size w wi) ∧ Hid (Below W0.heap.size W0 wi) ∧ Below wo.heap.size wo wi)
                          (fun j _ => rs.length - (intOf j).toNat)
                        case atStart => exact ⟨0, Nat.zero_le _, rfl, HB, hb', Below.refl _ _⟩
                        case round =>
                          clear HB hb'
                          obtain ⟨i, hil, rfl, HB, HB0, hbi⟩ := hrel
                          obtain ⟨f0, f1⟩ := HCI.out _ hbi
                          by_cases hit : i < rs.length
                          · have hrr : Sl (Flat ints) 1 W0 (.slice B rs.length e) rs := HIP.out.1
                            have htt : Sl (Flat ints) 1 W0 (.slice D ts.length g) ts := HIP.out.2
                            have hle := HLE.out
                            have hitt : i < ts.length := by omega
                            obtain ⟨B', e', hv, hcr, hmr, hkr⟩ := hrr.open_
                            simp only [Value.slice.injEq] at hv
                            obtain ⟨rfl, -, rfl⟩ := hv
                            obtain ⟨D', g', hv, -, -, hkt⟩ := htt.open_
                            simp only [Value.slice.injEq] at hv
                            obtain ⟨rfl, -, rfl⟩ := hv
                            obtain ⟨br, orr, rfl, hatr⟩ := flat_at hkr (by omega)
                            obtain ⟨bt, ot, rfl, hatt⟩ := flat_at hkt (by omega)
                            have hx := int_at (rangeAt_below (hatr i hit) HB0.out)
                            have HT := Lib.hid (fun W (hW : Below W0.heap.size W0 W) => int_at (rangeAt_below (hatt i hitt) hW))
                            simp only [Nat.mul_one] at hx HT
                            have HQ := Lib.hid (rHas_any s rs[i] (.slice A2 s.length c2) wr (HR2.out.below (Flat.keeps _) HB0.out))
                            have HO := Lib.hid (HOK.out i hit hitt)
                            generalize rs[i] = x at hx HQ HO
                            generalize ts[i] = t at HT HO
                            have hz1 : (0 : Int) ≤ (i : Int) := by omega
                            have hz2 : (i : Int) < (rs.length : Int) := by omega
                            have hz3 : (i : Int) < (ts.length : Int) := by omega
                            clear hrr htt hkr hkt hatr hatt hle
                            cases hd : decide (x ∈ s) with
                            | false =>
                              rw [hd] at HQ
                              clear hd
                              go_wp2_with fail
                              refine (HQ.out).mono ?_
                              rintro e w' ⟨rfl, hb⟩
                              replace HB := Lib.hid (step_ HB.out (Nat.le_refl _) hb)
                              go_wp2_with fail
                              go_roundw
                              case rel => exact ⟨i + 1, by omega, by go_num, HB, Lib.hid (step_ HB0.out (Nat.le_refl _) hb), step_ hbi (Nat.le_refl _) hb⟩
                              case measure => simp [intOf]; omega
                            | true =>
                              rw [hd] at HQ
                              have hnt : ¬ (lv < t) := by have := HO.out hd; omega
                              clear hd
                              go_wp2_with fail
                              refine (HQ.out).mono ?_
                              rintro e w' ⟨rfl, hb⟩
                              replace HB := Lib.hid (step_ HB.out (Nat.le_refl _) hb)
                              have hb0 := step_ HB0.out (Nat.le_refl _) hb
                              have hbw := step_ hbi (Nat.le_refl _) hb
                              obtain ⟨g0, g1⟩ := HCI.out _ hbw
                              have ht := HT.out _ hb0
                              have HBW := Lib.hid (And.intro hb0 hbw)
                              clear hb hb0 hbw hbi f0 f1 hx
                              go_wp2_with fail
                              go_roundw
                              case rel => exact ⟨i + 1, by omega, by go_num, HB, Lib.hid HBW.out.1, HBW.out.2⟩
                              case measure => simp [intOf]; omega
                          · go_wp2_with fail
                            go_roundw
                            case rel => exact ⟨k + 1, by omega, by go_num, HB, HB0.out⟩
                            case measure => simp [intOf]; omega
                    · go_wp2_with fail
                      go_meet
                      exact HB
                case rest =>
                  clear HB HS HR2 HK HIN HF4 HL2
                  have HB := hcut
                  clear hcut
                  go_wp2_with fail
                  refine (draw_GapIn v0 m _ (HC.out.below HB.out)).mono ?_
                  rintro e w' ⟨p, a, b, rfl, hin, _, hb⟩
                  replace HB := Lib.hid (step_ HB.out (Nat.le_refl _) hb)
                  have HG1 := Lib.hid (show ∀ W, p.In W → _ from fun W hW => impl_GapIn p a b W hW)
                  have HG2 := Lib.hid (show ∀ W, p.In W → _ from fun W hW => spec_GapIn p a b W hW)
                  generalize gapV p.k a b = gv at HG1 HG2
                  generalize gapB p.k a b = gb at HG1 HG2
                  have hal : Below w'.heap.size w' (w'.alloc (.cells #[.slice p.a p.n p.c, .slice p.b p.m p.d] 28)) := below_alloc (Below.refl _ _) _
                  have HX := Lib.hid (show LitAt (w'.alloc (.cells #[.slice p.a p.n p.c, .slice p.b p.m p.d] 28)) w'.heap.size 28 p.lst from LitAt.new w' 28 p.lst w'.heap.size rfl)
                  have HI := Lib.hid (hin.below hal)
                  replace HB := Lib.hid (step_ HB.out (Nat.le_refl _) hal)
                  clear hb hin hal
                  go_upto_region 39 with fail
                  generalize w'.alloc (.cells #[.slice p.a p.n p.c, .slice p.b p.m p.d] 28) = W1 at *
                  generalize w'.heap.size = b27 at *
                  obtain ⟨a0, a1⟩ := heat_cells HX.out
                  go_wp2_with fail
                  refine (HG1.out _ HI.out).mono ?_
                  rintro e w' ⟨rfl, hb⟩
                  replace HB := Lib.hid (step_ HB.out (Nat.le_refl _) hb)
                  replace HX := Lib.hid (HX.out.below hb)
                  replace HI := Lib.hid (HI.out.below hb)
                  clear hb a0 a1
                  obtain ⟨a0, a1⟩ := heat_cells HX.out
                  go_wp2_with fail
                  refine (HG2.out _ HI.out).mono ?_
                  rintro e w' ⟨rfl, hb⟩
                  replace HB := Lib.hid (step_ HB.out (Nat.le_refl _) hb)
                  clear hb a0 a1
                  cases gb <;> (go_wp2_with fail; go_ret; exact ⟨rfl, HB.out⟩)
end Go.Proofs.Ytabgmbmaakglkaa
