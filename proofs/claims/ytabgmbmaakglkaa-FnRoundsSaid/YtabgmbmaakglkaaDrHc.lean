/- The draw of a round. Condition: the cursor has not come too far. -/
import Derived.Test.YtabgmbmaakglkaaDrHb
namespace Go.Proofs.Ytabgmbmaakglkaa
open Go Go.RowKit

/-- A list of heats in a drawing in course. -/
structure InRd (c : Nat) (w wx : World) (n : Nat) (A : Option Addr) (m d : Nat) (zs : List Ht) : Prop where
  dr : Dr c w wx n
  row : Row w.heap.size 28 2 wx (.slice A m d) (zs.map Ht.lst)
  ins : ∀ z ∈ zs, z.In wx ∧ (∀ q, (z.rv.ownBlock = some q ∨ z.tv.ownBlock = some q) → w.heap.size ≤ q ∧ q < wx.heap.size ∧ (Value.slice A m d).ownBlock ≠ some q) ∧ z.k.runners.length ≤ 8 ∧ z.k.times.length ≤ 8
  hc : c < w.heap.size
namespace InRd
variable {c : Nat} {w wx wy wm w3 : World} {n n' : Nat} {A A' : Option Addr} {m d m' d' : Nat} {zs : List Ht} {z : Ht}
theorem mono (h : InRd c w wx n A m d zs) (hn : n ≤ n') : InRd c w wx n' A m d zs := ⟨h.dr.mono hn, h.row, h.ins, h.hc⟩
theorem keptC (h : InRd c w wx n A m d zs) (hd : Dr c w wy n') (hg : wx.grownBy wy (some c)) : InRd c w wy n' A m d zs := by
  have hc := h.hc
  refine ⟨hd, h.row.keptC hc hg, fun z hz => ?_, hc⟩
  obtain ⟨h1, h2, h3⟩ := h.ins z hz
  exact ⟨h1.keptG hg (fun q hq e => by have := (h2 q hq).1; have := Option.some.inj e; omega), fun q hq => ⟨(h2 q hq).1, Nat.lt_of_lt_of_le (h2 q hq).2.1 hg.size, (h2 q hq).2.2⟩, h3⟩
theorem len (h : InRd c w wx n A m d zs) : m = zs.length := by have := h.row.none_len; simpa using this
/-- A drawn heat more. -/
theorem push (h : InRd c w wx n A m d zs) (hz : z.In wy) (hfar : ∀ q, (z.rv.ownBlock = some q ∨ z.tv.ownBlock = some q) → wx.heap.size ≤ q ∧ q < wy.heap.size) (hl : z.k.runners.length ≤ 8 ∧ z.k.times.length ≤ 8)
    (hd : Dr c w wy n') (hg : wx.grownBy wy (some c)) (hm : Below wy.heap.size wy wm) (hrow : Row w.heap.size 28 2 w3 (.slice A' m' d') (zs.map Ht.lst ++ [z.lst])) (hg3 : wm.grownBy w3 (Value.slice A m d).ownBlock)
    (hat : (Value.slice A' m' d').ownBlock = (Value.slice A m d).ownBlock ∨ (Value.slice A' m' d').ownBlock = some wm.heap.size) : InRd c w w3 n' A' m' d' (zs ++ [z]) := by
  have hc := h.hc
  have hlt : ∀ q, (Value.slice A m d).ownBlock = some q → w.heap.size ≤ q ∧ q < wx.heap.size := fun q hq => h.row.lt q hq
  have hs1 := hg.size
  have hs2 := hm.size
  have hs3 := hg3.size
  refine ⟨(hd.below hm).own hc hg3 (fun k e => (hlt k e).1), by rw [List.map_append]; exact hrow, fun y hy => ?_, hc⟩
  rcases List.mem_append.1 hy with hy | hy
  · obtain ⟨h1, h2, h3⟩ := h.ins y hy
    have h4 := (h1.keptG hg (fun q hq e => by have := (h2 q hq).1; have := Option.some.inj e; omega)).below hm
    refine ⟨h4.keptG hg3 (fun q hq e => (h2 q hq).2.2 e), fun q hq => ⟨(h2 q hq).1, by have := (h2 q hq).2.1; omega, fun e => ?_⟩, h3⟩
    rcases hat with e' | e'
    · exact (h2 q hq).2.2 (e'.symm.trans e)
    · have := (h2 q hq).2.1
      have := Option.some.inj (e'.symm.trans e)
      omega
  · rw [List.mem_singleton.1 hy]
    refine ⟨(hz.below hm).keptG hg3 (fun q hq e => by have := (hlt q e).2; have := (hfar q hq).1; omega), fun q hq => ⟨by have := (hfar q hq).1; have := h.dr.size; omega, by have := (hfar q hq).2; omega, fun e => ?_⟩, hl⟩
    rcases hat with e' | e'
    · have := (hlt q (e'.symm.trans e)).2
      have := (hfar q hq).1
      omega
    · have := (hfar q hq).2
      have := Option.some.inj (e'.symm.trans e)
      omega
end InRd
/-- How many heats lack at most. -/
def roundLeft (v : Value) : Nat := match v with | .slice _ m _ => 6 - m | _ => 0
theorem roundLeft_is (A : Option Addr) (m d : Nat) : roundLeft (.slice A m d) = 6 - m := rfl
/-- Blocks of a list of heats. -/
def FarS (b : Nat) (v : Value) (xs : List Ht) : Prop := ∀ q, (v.ownBlock = some q ∨ ∃ p ∈ xs, p.rv.ownBlock = some q ∨ p.tv.ownBlock = some q) → b ≤ q
theorem HtS.keptC {w w' : World} {v : Value} {xs : List Ht} {b c : Nat} (h : HtS w v xs) (hf : FarS b v xs) (hc : c < b) (hg : w.grownBy w' (some c)) : HtS w' v xs :=
  ⟨h.1.keptG hg (fun q hq e => by have := hf q (.inl hq); have := Option.some.inj e; omega), fun p hp => (h.2 p hp).keptG hg (fun q hq e => by have := hf q (.inr ⟨p, hp, hq⟩); have := Option.some.inj e; omega)⟩
theorem InRd.out {c : Nat} {w wx : World} {n : Nat} {A : Option Addr} {m d : Nat} {zs : List Ht} (h : InRd c w wx n A m d zs) : HtS wx (.slice A m d) zs ∧ FarS w.heap.size (.slice A m d) zs ∧ (∀ p ∈ zs, p.k.runners.length ≤ 8 ∧ p.k.times.length ≤ 8) ∧ Dr c w wx n :=
  ⟨⟨Sl.of_flat h.row, fun p hp => (h.ins p hp).1⟩, fun q hq => hq.elim (fun e => (h.row.lt q e).1) (fun ⟨p, hp, e⟩ => ((h.ins p hp).2.1 q e).1), fun p hp => (h.ins p hp).2.2, h.dr⟩

set_option maxRecDepth 100000 in
set_option maxHeartbeats 8000000 in
theorem round18_any (c n : Nat) (w : World) (h : Cur c w n) (hn : n ≤ 9000) :
    Calls Try.prog 74 #[.pointer (some ⟨c, 0, none⟩)] w fun e w' => ∃ v xs, e = .returned v ∧ HtS w' v xs ∧ FarS w.heap.size v xs ∧ xs.length ≤ 6 ∧ (∀ p ∈ xs, p.k.runners.length ≤ 8 ∧ p.k.times.length ≤ 8) ∧ Dr c w w' (n + 900) := by
  have hlt := h.lt
  have HI := Lib.hid (show InRd c w (w.alloc (.cells #[] 28)) n (some ⟨w.heap.size, 0, none⟩) 0 0 [] from ⟨(Dr.start h).alloc _, Row.lit_nil w _ _ (Nat.le_refl _), fun z hz => absurd hz (by simp), hlt⟩)
  clear h
  go_enter Try.func74, Try.ntmps74
  go_wp2_with fail
  refine (pick_dr 3 HI.out.dr (by omega) (by omega) (by omega)).mono ?_
  rintro e0 w1 ⟨y, hy, rfl, hd, hg⟩
  replace HI := Lib.hid (HI.out.keptC hd hg)
  clear hd hg
  have hwy : IntKind.i64.wrap (1 + (y : Int)) = 1 + (y : Int) := by rw [IntKind.wrap_i64]; omega
  go_wp2_with fail
  go_loopw [3, 4] (fun ov rv wr => ∃ (r : Nat) (A : Option Addr) (d : Nat) (zs : List Ht), rv = .int .i64 r ∧ zs.length + r ≤ 3 ∧ ov = .slice A zs.length d ∧ Hid (InRd c w wr (n + 2 + 100 * zs.length) A zs.length d zs))
    (fun _ rv _ => (intOf rv).toNat)
  case atStart => exact ⟨1 + y, _, _, [], by go_num, by simp; omega, rfl, HI.out⟩
  case round =>
    clear HI
    obtain ⟨r, A, d, zs, rfl, hzr, rfl, HI⟩ := hrel
    by_cases hr : (0 : Int) < (r : Int)
    · have hw1 : IntKind.i64.wrap (10 * (zs.length : Int)) = 10 * (zs.length : Int) := by rw [IntKind.wrap_i64]; omega
      have hw2 : IntKind.i64.wrap (1 + 10 * (zs.length : Int)) = 1 + 10 * (zs.length : Int) := by rw [IntKind.wrap_i64]; omega
      go_wp2_with fail
      refine (heat_any c (n + 2 + 100 * zs.length) (1 + 10 * (zs.length : Int)) wr HI.out.dr.cur (by omega) (by omega)).mono ?_
      rintro e3 w3 ⟨p, rfl, hin, hfar, hlens, hd, hg⟩
      have HIN := Lib.hid hin
      have HFAR := Lib.hid hfar
      have HLENS := Lib.hid hlens
      have HD := Lib.hid (show Dr c w w3 ((n + 2 + 100 * zs.length) + 100) from ⟨hd.cur, grown_trans HI.out.dr.grown hg⟩)
      have HG := Lib.hid hg
      have HRK := Lib.hid ((HI.out.row.keptC HI.out.hc hg).alloc (.cells #[.slice p.a p.n p.c, .slice p.b p.m p.d] 28))
      have HSR := Lib.hid (show Src (w3.alloc (.cells #[.slice p.a p.n p.c, .slice p.b p.m p.d] 28)) 2 (some ⟨w3.heap.size, 0, none⟩) 1 [p.lst] from Src.lit w3 28 p.lst w3.heap.size rfl rfl p.one)
      have HLL := Lib.hid (show (zs.map Ht.lst).length + 1 ≤ 2147483648 by simp; omega)
      have HSZ := Lib.hid (show w.heap.size ≤ (w3.alloc (.cells #[.slice p.a p.n p.c, .slice p.b p.m p.d] 28)).heap.size from by have := HD.out.size; simp; omega)
      clear hin hfar hlens hd hg
      go_wp2_with (at_builtin; refine tyHt.append rfl _ _ rfl w.heap.size _ _ rfl HRK.out _ 1 1 [p.lst] rfl HSR.out HLL.out HSZ.out ?_; intro o7 w7 hrow7 hg7 hat7; obtain ⟨A7, c7, rfl, -, -⟩ := hrow7.parts; simp only [List.length_append, List.length_map, List.length_singleton] at hrow7 hat7 ⊢)
      have HP7 := Lib.hid (HI.out.push HIN.out HFAR.out HLENS.out HD.out HG.out (below_alloc (Below.refl _ _) _) hrow7 hg7 hat7)
      clear hrow7 hg7 hat7 HRK HSR HLL HSZ
      have hw3 : IntKind.i64.wrap ((r : Int) - 1) = (r : Int) - 1 := by rw [IntKind.wrap_i64]; omega
      go_wp2
      go_roundw
      case rel => exact ⟨r - 1, A7, c7, zs ++ [p], by congr 1; omega, by simp; omega, by simp, Lib.hid (by have := HP7.out.mono (n' := n + 2 + 100 * (zs.length + 1)) (by omega); simpa using this)⟩
      case measure => simp [intOf]; omega
    · go_wp2_with fail
      refine (pick_dr 40 HI.out.dr (by omega) (by omega) (by omega)).mono ?_
      rintro e2 w2 ⟨z, hz, rfl, hd, hg⟩
      replace HI := Lib.hid ((HI.out.keptC hd hg).mono (n' := n + 310) (by omega))
      clear hd hg hr
      have hz3 : zs.length ≤ 3 := by omega
      clear hzr
      generalize (z : Int) = z at hz ⊢
      by_cases h0 : z = 0
      · subst h0
        have hdd : (0 : Int) ≤ (d : Int) := by omega
        go_wp2
        go_ret
        have ho := HI.out.out
        refine ⟨_, [], rfl, ⟨⟨A, d, rfl, by simp, by obtain ⟨_, _, h5, _, h6⟩ := HI.out.row.parts; simp only [Value.slice.injEq] at h5; simp only [maxLen]; omega, fun h => absurd h (by simp)⟩, fun p hp => absurd hp (by simp)⟩, fun q hq => hq.elim (fun e => ho.2.1 q (.inl (by cases A <;> simp [Value.ownBlock] at e ⊢ <;> exact e))) (fun ⟨p, hp, _⟩ => absurd hp (by simp)), by simp, fun p hp => absurd hp (by simp), ho.2.2.2.mono (by omega)⟩
      by_cases h1 : z = 1
      · subst h1
        go_wp2_with fail
        refine (heat_any c (n + 310) 2 w2 HI.out.dr.cur (by omega) (by omega)).mono ?_
        rintro e3 w3 ⟨p, rfl, hin, hfar, hlens, hd, hg⟩
        have HIN := Lib.hid hin
        have HFAR := Lib.hid hfar
        have HLENS := Lib.hid hlens
        have HD := Lib.hid (show Dr c w w3 ((n + 310) + 100) from ⟨hd.cur, grown_trans HI.out.dr.grown hg⟩)
        have HG := Lib.hid hg
        have HRK := Lib.hid ((HI.out.row.keptC HI.out.hc hg).alloc (.cells #[.slice p.a p.n p.c, .slice p.b p.m p.d] 28))
        have HSR := Lib.hid (show Src (w3.alloc (.cells #[.slice p.a p.n p.c, .slice p.b p.m p.d] 28)) 2 (some ⟨w3.heap.size, 0, none⟩) 1 [p.lst] from Src.lit w3 28 p.lst w3.heap.size rfl rfl p.one)
        have HLL := Lib.hid (show (zs.map Ht.lst).length + 1 ≤ 2147483648 by simp; omega)
        have HSZ := Lib.hid (show w.heap.size ≤ (w3.alloc (.cells #[.slice p.a p.n p.c, .slice p.b p.m p.d] 28)).heap.size from by have := HD.out.size; simp; omega)
        clear hin hfar hlens hd hg
        go_wp2_with (at_builtin; refine tyHt.append rfl _ _ rfl w.heap.size _ _ rfl HRK.out _ 1 1 [p.lst] rfl HSR.out HLL.out HSZ.out ?_; intro o7 w7 hrow7 hg7 hat7; obtain ⟨A7, c7, rfl, -, -⟩ := hrow7.parts; simp only [List.length_append, List.length_map, List.length_singleton] at hrow7 hat7 ⊢)
        have HP7 := Lib.hid (HI.out.push HIN.out HFAR.out HLENS.out HD.out HG.out (below_alloc (Below.refl _ _) _) hrow7 hg7 hat7)
        clear hrow7 hg7 hat7 HRK HSR HLL HSZ
        go_wp2
        go_ret
        have ho := HP7.out.out
        exact ⟨_, zs ++ [p], rfl, ho.1, ho.2.1, by simp; omega, ho.2.2.1, ho.2.2.2.mono (by omega)⟩
      by_cases h2 : z = 2
      · subst h2
        go_wp2_with fail
        go_loopw [3] (fun ov wr => ∃ (A : Option Addr) (d : Nat) (zs : List Ht), zs.length ≤ 5 ∧ ov = .slice A zs.length d ∧ Hid (InRd c w wr (n + 310 + 102 * zs.length) A zs.length d zs))
          (fun ov _ => roundLeft ov)
        case atStart => exact ⟨A, d, zs, by omega, rfl, HI.out.mono (by omega)⟩
        case round =>
          clear HI hz3
          obtain ⟨A, d, zs, hz5, rfl, HI⟩ := hrel
          go_wp2_with fail
          refine (pick_dr 2 HI.out.dr (by omega) (by omega) (by omega)).mono ?_
          rintro e5 w5 ⟨y2, hy2, rfl, hd, hg⟩
          replace HI := Lib.hid (HI.out.keptC hd hg)
          clear hd hg
          have hwy : IntKind.i64.wrap (4 + (y2 : Int)) = 4 + (y2 : Int) := by rw [IntKind.wrap_i64]; omega
          by_cases hlt4 : (zs.length : Int) < 4 + (y2 : Int)
          · have hw1 : IntKind.i64.wrap (100 * (zs.length : Int)) = 100 * (zs.length : Int) := by rw [IntKind.wrap_i64]; omega
            go_wp2_with fail
            refine (heat_any c (n + 310 + 102 * zs.length + 2) (100 * (zs.length : Int)) w5 HI.out.dr.cur (by omega) (by omega)).mono ?_
            rintro e3 w3 ⟨p, rfl, hin, hfar, hlens, hd, hg⟩
            have HIN := Lib.hid hin
            have HFAR := Lib.hid hfar
            have HLENS := Lib.hid hlens
            have HD := Lib.hid (show Dr c w w3 ((n + 310 + 102 * zs.length + 2) + 100) from ⟨hd.cur, grown_trans HI.out.dr.grown hg⟩)
            have HG := Lib.hid hg
            have HRK := Lib.hid ((HI.out.row.keptC HI.out.hc hg).alloc (.cells #[.slice p.a p.n p.c, .slice p.b p.m p.d] 28))
            have HSR := Lib.hid (show Src (w3.alloc (.cells #[.slice p.a p.n p.c, .slice p.b p.m p.d] 28)) 2 (some ⟨w3.heap.size, 0, none⟩) 1 [p.lst] from Src.lit w3 28 p.lst w3.heap.size rfl rfl p.one)
            have HLL := Lib.hid (show (zs.map Ht.lst).length + 1 ≤ 2147483648 by simp; omega)
            have HSZ := Lib.hid (show w.heap.size ≤ (w3.alloc (.cells #[.slice p.a p.n p.c, .slice p.b p.m p.d] 28)).heap.size from by have := HD.out.size; simp; omega)
            clear hin hfar hlens hd hg
            go_wp2_with (at_builtin; refine tyHt.append rfl _ _ rfl w.heap.size _ _ rfl HRK.out _ 1 1 [p.lst] rfl HSR.out HLL.out HSZ.out ?_; intro o7 w7 hrow7 hg7 hat7; obtain ⟨A7, c7, rfl, -, -⟩ := hrow7.parts; simp only [List.length_append, List.length_map, List.length_singleton] at hrow7 hat7 ⊢)
            have HP7 := Lib.hid (HI.out.push HIN.out HFAR.out HLENS.out HD.out HG.out (below_alloc (Below.refl _ _) _) hrow7 hg7 hat7)
            clear hrow7 hg7 hat7 HRK HSR HLL HSZ
            go_wp2
            go_roundw
            case rel => exact ⟨A7, c7, zs ++ [p], by simp; omega, by simp, Lib.hid (by have := HP7.out.mono (n' := n + 310 + 102 * (zs.length + 1)) (by omega); simpa using this)⟩
            case measure =>
              rw [roundLeft_is, roundLeft_is]
              omega
          · go_wp2
            go_ret
            have ho := HI.out.out
            exact ⟨_, zs, rfl, ho.1, ho.2.1, by omega, ho.2.2.1, ho.2.2.2.mono (by omega)⟩
      go_wp2
      go_ret
      have ho := HI.out.out
      exact ⟨_, zs, rfl, ho.1, ho.2.1, by omega, ho.2.2.1, ho.2.2.2.mono (by omega)⟩
end Go.Proofs.Ytabgmbmaakglkaa
