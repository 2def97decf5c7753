/- The draw of a race. Condition: the cursor has not come too far. -/
import Derived.Test.YtfmgnbkneccekaaDrRq
import Derived.Test.YtfmgnbkneccekaaFrQ
import Derived.Deep.RegionHeld3
import Derived.Deep.RegionLaw
namespace Go.Proofs.Ytfmgnbkneccekaa
open Go Go.RowKit

abbrev zRace : List Value := [.int .i64 0, .bool false, .slice none 0 0]
/-- A race in a variable (block g) of a drawing in course; the result's variable (block gz) is untouched. -/
def InRa (gz g base c : Nat) (w wx : World) (n : Nat) (p : Race) : Prop := Dr c w wx n ∧ LitAt wx gz 24 zRace ∧ RaceAt base wx g p
theorem InRa.below {gz g base c : Nat} {w wx wy : World} {n : Nat} {p : Race} (h : InRa gz g base c w wx n p) (hb : Below wx.heap.size wx wy) : InRa gz g base c w wy n p := ⟨h.1.below hb, h.2.1.below hb, h.2.2.below hb⟩
theorem InRa.mono {gz g base c : Nat} {w wx : World} {n n' : Nat} {p : Race} (h : InRa gz g base c w wx n p) (hn : n ≤ n') : InRa gz g base c w wx n' p := ⟨h.1.mono hn, h.2⟩
theorem RaceAt.keptC {base g c : Nat} {w w' : World} {p : Race} (h : RaceAt base w g p) (hc : c < base) (hcg : c < g) (hg : w.grownBy w' (some c)) : RaceAt base w' g p := ⟨h.1.keptC hcg hg, RaceR.keptC h.2.1 hc hg, h.2.2⟩
theorem InRa.keptC {gz g base c : Nat} {w wx wy : World} {n n' : Nat} {p : Race} (h : InRa gz g base c w wx n p) (hc : c < base) (h0 : c < gz) (hcg : c < g) (hd : Dr c w wy n') (hg : wx.grownBy wy (some c)) : InRa gz g base c w wy n' p :=
  ⟨hd, h.2.1.keptC h0 hg, h.2.2.keptC hc hcg hg⟩
theorem grownC_alloc {w w1 : World} {c : Option Nat} (h : w.grownBy w1 c) (o : Obj) : w.grownBy (w1.alloc o) c := grown_trans h (grown_of (below_alloc (Below.refl _ _) o))
theorem grownC_drew {w w1 : World} {c : Option Nat} (h : w.grownBy w1 c) : w.grownBy w1.drew c := grown_trans h (grown_of (Below.refl _ _).drew)
theorem grownC_set {w w1 : World} {c g o : Nat} {u : Value} (h : w.grownBy w1 (some c)) (hg : w.heap.size ≤ g) : w.grownBy (w1.setCell ⟨g, o, none⟩ u) (some c) := grown_own h grown_setCell (fun k e => by cases e; exact hg)
/-- Another race in the variable. -/
theorem InRa.turn {gz g base c : Nat} {w wx : World} {n : Nat} {p p' : Race} (h : InRa gz g base c w wx n p) (hr : RaceR base wx p') (hne : ∀ k, RaceBlk p' k → k ≠ g) (hz : gz ≠ g) (h0 : c < w.heap.size) (hb : w.heap.size ≤ g) :
    InRa gz g base c w (((wx.setCell ⟨g, 0, none⟩ (.int .i64 p'.clock)).setCell ⟨g, 1, none⟩ (.bool p'.closed)).setCell ⟨g, 2, none⟩ (.slice p'.a p'.n p'.c)) n p' := by
  refine ⟨h.1.own h0 (grown_trans (grown_trans grown_setCell grown_setCell) grown_setCell) (fun k e => by have := Option.some.inj e; omega), ((h.2.1.setNe hz _).setNe hz _).setNe hz _, ?_, ?_, hne⟩
  · exact ((h.2.2.1.put_ 0 (.int .i64 p'.clock)).put_ 1 (.bool p'.closed)).put_ 2 (.slice p'.a p'.n p'.c)
  · exact ((hr.setFar hne _).setFar hne _).setFar hne _
theorem InRa.cells {gz g base c : Nat} {w wx : World} {n : Nat} {p : Race} (h : InRa gz g base c w wx n p) : wx.cell? ⟨g, 0, none⟩ = some (.int .i64 p.clock) ∧ wx.cell? ⟨g, 1, none⟩ = some (.bool p.closed) ∧ wx.cell? ⟨g, 2, none⟩ = some (.slice p.a p.n p.c) ∧ (wx.frozen? ⟨g, 0, none⟩ = false ∧ wx.frozen? ⟨g, 1, none⟩ = false ∧ wx.frozen? ⟨g, 2, none⟩ = false) := by
  obtain ⟨h0, h1, h2, hf⟩ := h.2.2.cells
  exact ⟨h0, h1, h2, hf _, hf _, hf _⟩
/-- A step has been made: the race behind it lies in a variable of its own (block B), the old one as it was. -/
def StepT (gz g base c : Nat) (w : World) (n : Nat) (p : Race) (W : World) (B : Nat) (p' : Race) (s : Step) : Prop :=
  DrawnSt s ∧ p'.k = strV p.k s ∧ RaceR base W p' ∧ W.rangeAt B 0 p'.lst ∧ InRa gz g base c w W n p ∧ ∀ k, RaceBlk p' k → k ≠ g
theorem join5 {C : Prop} {F P : World → Nat → Race → Step → Prop} (h : (∀ W B p s, F W B p s → P W B p s) → C) (k : ∀ W B p s, F W B p s → P W B p s) : C := h k
theorem good_len {p : Race} (g : GoodRace p.k) : 1 ≤ p.zs.length ∧ p.zs.length ≤ 8 := by
  have := inB_iff.1 g.2.1
  simp only [Race.k, List.length_map] at this
  omega
/-- A step made with no drawing: laid just behind its call. -/
theorem StepT.laid {gz g base c n : Nat} {w wx w' : World} {p p' : Race} {s : Step} (h : InRa gz g base c w wx n p) (hs : DrawnSt s) (hk : p'.k = strV p.k s) (hr : RaceR wx.heap.size w' p') (hb : Below wx.heap.size wx w') (hbase : base ≤ wx.heap.size) :
    StepT gz g base c w n p (w'.alloc (.cells #[.int .i64 p'.clock, .bool p'.closed, .slice p'.a p'.n p'.c] 24)) w'.heap.size p' s :=
  ⟨hs, hk, RaceR.below (RaceR.mono hr hbase) (below_alloc (Below.refl _ _) _), Race.rangeNew w' p' 24, (h.below hb).below (below_alloc (Below.refl _ _) _), fun k hk => by have h1 := (RaceR.lt hr k hk).1; have h2 := h.2.2.1.lt; omega⟩
theorem InRa.far {gz g base c n b : Nat} {w wx : World} {p : Race} (h : InRa gz g base c w wx n p) (h0 : c < w.heap.size) (hz : gz ≠ b) (hg : g ≠ b) (hb : w.heap.size ≤ b) (hp : ∀ k, RaceBlk p k → k ≠ b) (u0 u1 u2 : Value) :
    InRa gz g base c w (((wx.setCell ⟨b, 0, none⟩ u0).setCell ⟨b, 1, none⟩ u1).setCell ⟨b, 2, none⟩ u2) n p :=
  ⟨h.1.own h0 (grown_trans (grown_trans grown_setCell grown_setCell) grown_setCell) (fun k e => by have := Option.some.inj e; omega), ((h.2.1.setNe hz _).setNe hz _).setNe hz _, ((h.2.2.1.setNe hg _).setNe hg _).setNe hg _, ((h.2.2.2.1.setFar hp _).setFar hp _).setFar hp _, h.2.2.2.2⟩
theorem InRa.put0 {g c : Nat} {w wx : World} {n : Nat} {p : Race} (h : InRa w.heap.size g (w.heap.size + 1) c w wx n p) (h0 : c < w.heap.size) (hz : w.heap.size < g) (v : Int) : InRa w.heap.size g (w.heap.size + 1) c w (wx.setCell ⟨g, 0, none⟩ (.int .i64 v)) n ⟨v, p.closed, p.a, p.n, p.c, p.zs⟩ :=
  ⟨h.1.own h0 grown_setCell (fun k e => by have := Option.some.inj e; omega), h.2.1.setNe (by omega) _, h.2.2.1.put_ 0 (.int .i64 v), h.2.2.2.1.setFar h.2.2.2.2 _, h.2.2.2.2⟩
theorem InRa.put1 {g c : Nat} {w wx : World} {n : Nat} {p : Race} (h : InRa w.heap.size g (w.heap.size + 1) c w wx n p) (h0 : c < w.heap.size) (hz : w.heap.size < g) (v : Bool) : InRa w.heap.size g (w.heap.size + 1) c w (wx.setCell ⟨g, 1, none⟩ (.bool v)) n ⟨p.clock, v, p.a, p.n, p.c, p.zs⟩ :=
  ⟨h.1.own h0 grown_setCell (fun k e => by have := Option.some.inj e; omega), h.2.1.setNe (by omega) _, h.2.2.1.put_ 1 (.bool v), h.2.2.2.1.setFar h.2.2.2.2 _, h.2.2.2.2⟩
/-- The first entrant's state. -/
theorem InRa.state {g c q n cc m : Nat} {w wx : World} {cl : Int} {cd : Bool} {zs : List Ent} (h : InRa w.heap.size g (w.heap.size + 1) c w wx m ⟨cl, cd, some ⟨q, 0, none⟩, n, cc, zs⟩) (h0 : c < w.heap.size) (hl : 0 < zs.length) (v : Int) :
    InRa w.heap.size g (w.heap.size + 1) c w (wx.setCell ⟨q, 0, none⟩ (.int .i64 v)) m ⟨cl, cd, some ⟨q, 0, none⟩, n, cc, zs.set 0 ⟨v, zs[0].card⟩⟩ := by
  have hq : w.heap.size + 1 ≤ q := (RaceR.lt h.2.2.2.1 q (.inl rfl)).1
  have hR : EntR (w.heap.size + 1) wx (.slice (some ⟨q, 0, none⟩) n cc) zs := h.2.2.2.1
  obtain ⟨r1, r2⟩ := hR.1.stored (k := 0) (j := 0) (by simpa using hl) (by omega) (.int .i64 v)
  simp only [Nat.zero_mul, Nat.zero_add] at r1 r2
  refine ⟨h.1.own h0 r2 (fun k e => by have := Option.some.inj e; omega), h.2.1.setNe (by omega) _, RaceAt.turn h.2.2 hl ⟨v, zs[0].card⟩ rfl rfl r2 ?_⟩
  have e : ((zs.map Ent.lst)[0]'(by simpa using hl)).set 0 (.int .i64 v) = Ent.lst ⟨v, zs[0].card⟩ := by simp [Ent.lst]
  rw [e] at r1
  exact r1
/-- The field is emptied: a row just laid. -/
theorem InRa.emptied {g c : Nat} {w wx : World} {n : Nat} {p : Race} (h : InRa w.heap.size g (w.heap.size + 1) c w wx n p) (h0 : c < w.heap.size) (hz : w.heap.size < g) :
    InRa w.heap.size g (w.heap.size + 1) c w ((wx.alloc (.cells #[] 75)).setCell ⟨g, 2, none⟩ (.slice (some ⟨wx.heap.size, 0, none⟩) 0 0)) n ⟨p.clock, p.closed, some ⟨wx.heap.size, 0, none⟩, 0, 0, []⟩ := by
  have hgw : g < wx.heap.size := h.2.2.1.lt
  have h' := h.below (below_alloc (Below.refl _ _) (.cells #[] 75))
  have hne : ∀ k, RaceBlk ⟨p.clock, p.closed, some ⟨wx.heap.size, 0, none⟩, 0, 0, []⟩ k → k ≠ g := by
    rintro k (hk | ⟨y, hy, _⟩)
    · simp [Value.ownBlock] at hk
      omega
    · cases hy
  refine ⟨h'.1.own h0 grown_setCell (fun k e => by have := Option.some.inj e; omega), h'.2.1.setNe (by omega) _, h'.2.2.1.put_ 2 (.slice (some ⟨wx.heap.size, 0, none⟩) 0 0), ?_, hne⟩
  exact RaceR.setFar (show RaceR (w.heap.size + 1) (wx.alloc (.cells #[] 75)) ⟨p.clock, p.closed, some ⟨wx.heap.size, 0, none⟩, 0, 0, []⟩ from ⟨Row.lit_nil wx 75 5 (by omega), by simp, by simp⟩) hne _
set_option maxRecDepth 100000 in
set_option maxHeartbeats 8000000 in
theorem race_any (c n : Nat) (w : World) (h : Cur c w n) (hn : n ≤ 1000) :
    Calls Try.prog 83 #[.pointer (some ⟨c, 0, none⟩)] w fun e w' => ∃ p : Race, e = .returned (.agg #[.int .i64 p.clock, .bool p.closed, .slice p.a p.n p.c]) ∧ RaceR w.heap.size w' p ∧ p.zs.length ≤ 8 ∧ Dr c w w' (n + 2000) := by
  have hlt := h.lt
  have HZ := Lib.hid (show LitAt (w.alloc (.cells #[.int .i64 0, .bool false, .slice none 0 0] 24)) w.heap.size 24 zRace from LitAt.new w _ _ _ rfl)
  have HD := Lib.hid ((Dr.start h).alloc (.cells #[.int .i64 0, .bool false, .slice none 0 0] 24))
  clear h
  go_enter Try.func83, Try.ntmps83
  go_wp2_with fail
  refine (pick_dr 4 HD.out (by omega) (by omega) (by omega)).mono ?_
  rintro e w1 ⟨x, hx, rfl, hd, hg⟩
  replace HD := Lib.hid hd
  replace HZ := Lib.hid (HZ.out.keptC hlt hg)
  clear hd hg
  have hwr : IntKind.i64.wrap ((1 : Int) + (x : Int)) = 1 + (x : Int) := by rw [IntKind.wrap_i64]; omega
  go_wp2_with fail
  refine (spec_NewRace (1 + (x : Int)) w1 (by unfold I64; omega)).mono ?_
  rintro e w2 ⟨p0, rfl, hk0, hr0, hb⟩
  have hbase : w.heap.size + 1 ≤ w1.heap.size := HZ.out.lt
  have HG := Lib.hid (show GoodRace p0.k by rw [hk0]; exact newV_good (by omega) (by omega))
  have HI := Lib.hid (show InRa w.heap.size w2.heap.size (w.heap.size + 1) c w (w2.alloc (.cells #[.int .i64 p0.clock, .bool p0.closed, .slice p0.a p0.n p0.c] 24)) (n + 2) p0 from
    ⟨(HD.out.below hb).alloc _, (HZ.out.below hb).alloc _, LitAt.new w2 24 p0.lst w2.heap.size rfl, RaceR.below (RaceR.mono hr0 hbase) (below_alloc (Below.refl _ _) _), fun k hk => by have := (RaceR.lt hr0 k hk).2; omega⟩)
  have hgg : w.heap.size < w2.heap.size := by have := hb.size; omega
  clear hb hk0 hr0 HD HZ hwr hx hbase
  go_upto_region 2 with fail
  generalize w2.alloc (.cells #[.int .i64 p0.clock, .bool p0.closed, .slice p0.a p0.n p0.c] 24) = W2 at HI ⊢
  generalize w2.heap.size = g at HI hgg ⊢
  go_wp2_with fail
  refine (pick_dr 20 HI.out.1 (by omega) (by omega) (by omega)).mono ?_
  rintro e w3 ⟨y, hy, rfl, hd, hg⟩
  replace HI := Lib.hid (HI.out.keptC (by omega) hlt (by omega) hd hg)
  clear hd hg
  have hcg : c < g := by omega
  go_upto_block 0 with fail
  go_cut [5] (fun _ wx => ∃ p : Race, Hid (GoodRace p.k) ∧ Hid (InRa w.heap.size g (w.heap.size + 1) c w wx (n + 1204) p))
  case first =>
   go_wp2_with fail
   go_loopw [5] (fun iv wr => ∃ (i : Nat) (p : Race), i < 20 ∧ iv = .int .i64 i ∧ Hid (GoodRace p.k) ∧ Hid (InRa w.heap.size g (w.heap.size + 1) c w wr (n + 4 + 60 * (20 - i)) p))
     (fun iv _ => (intOf iv).toNat)
   case atStart => exact ⟨y, p0, by omega, rfl, HG.out, HI.out.mono (by omega)⟩
   case round =>
     clear HG HI
     obtain ⟨i, p, hi, rfl, HG, HI⟩ := hrel
     have hl := good_len HG.out
     by_cases hi0 : 0 < i
     · have hi0' : (0 : Int) < (i : Int) := by omega
       go_wp2_with fail
       have hlo0 : wr.heap.size ≤ wr.heap.size := Nat.le_refl _
       have hV0 := Lib.hid (show wr.grownBy wr.drew (some c) from grown_of (Below.refl _ _).drew)
       have HH := Lib.hid (show ∀ W, wr.grownBy W (some c) → W.cell? ⟨g, 0, none⟩ = some (.int .i64 p.clock) ∧ W.cell? ⟨g, 1, none⟩ = some (.bool p.closed) ∧ W.cell? ⟨g, 2, none⟩ = some (.slice p.a p.n p.c) from fun W hW => by
         obtain ⟨a0, a1, a2, _⟩ := (HI.out.2.2.keptC (by omega) hcg hW).cells
         exact ⟨a0, a1, a2⟩)
       have HI0 := Lib.hid (HI.out.below (Below.refl _ _).drew)
       have hgw : g < wr.heap.size := HI.out.2.2.1.lt
       have hgz : w.heap.size < wr.heap.size := HI.out.2.1.lt
       apply join5 (F := StepT w.heap.size g (w.heap.size + 1) c w (n + 4 + 60 * (20 - i) + 60) p)
       · intro hk
         go_region_held3 (fun w' => w'.cell? ⟨g, 0, none⟩ = some (.int .i64 p.clock) ∧ w'.cell? ⟨g, 1, none⟩ = some (.bool p.closed) ∧ w'.cell? ⟨g, 2, none⟩ = some (.slice p.a p.n p.c)) (exact HH.out _ (by repeat (first | (with_reducible exact hV2.out) | (with_reducible exact hV1.out) | (with_reducible exact hV0.out) | (with_reducible exact World.grownBy.refl _ _) | (with_reducible refine grownC_drew ?_) | (with_reducible refine grownC_alloc ?_ _) | (with_reducible refine grownC_set ?_ (by first | (with_reducible exact hlo2) | (with_reducible exact hlo1) | (with_reducible exact hlo0))))))
           (first
             | (go_at_call 85; refine (raceStep_any c _ p w wr.drew HI0.out.1 (by omega) (RaceR.mono HI0.out.2.2.2.1 (by omega)) hlt hl.2).mono ?_; rintro e v1 ⟨s, rfl, hs, -, hd, hgv⟩; have hV1 := Lib.hid (grown_trans hV0.out hgv); have HI1 := Lib.hid (HI0.out.keptC (by omega) hlt hcg hd hgv); have HS := Lib.hid hs; have hlo1 := hV1.out.size; clear hs hd hgv)
             | (go_at_call 85; have HIz := Lib.hid (HI0.out.below (below_alloc (Below.refl _ _) (.cells #[.int .i64 0, .bool false, .slice none 0 0] 24))); have HZz := Lib.hid (show LitAt (wr.drew.alloc (.cells #[.int .i64 0, .bool false, .slice none 0 0] 24)) wr.heap.size 24 zRace from LitAt.new wr.drew _ _ _ rfl); refine (raceStep_any c _ p w (wr.drew.alloc (.cells #[.int .i64 0, .bool false, .slice none 0 0] 24)) HIz.out.1 (by omega) (RaceR.mono HIz.out.2.2.2.1 (by omega)) hlt hl.2).mono ?_; rintro e v1 ⟨s, rfl, hs, -, hd, hgv⟩; have hV1 := Lib.hid (grown_trans (grownC_alloc hV0.out _) hgv); have HI1 := Lib.hid (HIz.out.keptC (by omega) hlt hcg hd hgv); have HZ0 := Lib.hid (HZz.out.keptC (by omega) hgv); clear HZz HIz; have HS := Lib.hid hs; have hlo1 := hV1.out.size; clear hs hd hgv)
             | (go_at_call 36; (try (have hlt0 := HZ0.out.lt)); refine (spec_StepRace p p.k s v1 rfl (RaceR.s HI1.out.2.2.2.1) (DrawnSt.ok HS.out)).mono ?_; rintro e v2 ⟨p', rfl, hk', hr', hb2⟩; have hV2 := Lib.hid (grown_trans hV1.out (grown_of hb2)); have hlo2 := hV2.out.size; have HI2 := Lib.hid (HI1.out.below hb2); have hbs := hb2.size; (try (have HZ0 := Lib.hid (HZ0.out.below hb2))); (try (have z00 := HZ0.out.range 0 _ rfl; have z01 := HZ0.out.range 1 _ rfl; have z02 := HZ0.out.range 2 _ rfl; have zf0 := HZ0.out.frozen; simp only [Nat.zero_add] at z00 z01 z02)))
             | (go_at_call 36; have HI1z := Lib.hid (HI1.out.below (below_alloc (Below.refl _ _) (.cells #[.int .i64 0, .bool false, .slice none 0 0] 24))); have HZ1z := Lib.hid (show LitAt (v1.alloc (.cells #[.int .i64 0, .bool false, .slice none 0 0] 24)) v1.heap.size 24 zRace from LitAt.new v1 _ _ _ rfl); have hlt1 := HZ1z.out.lt; refine (spec_StepRace p p.k s (v1.alloc (.cells #[.int .i64 0, .bool false, .slice none 0 0] 24)) rfl (RaceR.s HI1z.out.2.2.2.1) (DrawnSt.ok HS.out)).mono ?_; rintro e v2 ⟨p', rfl, hk', hr', hb2⟩; have hV2 := Lib.hid (grown_trans (grownC_alloc hV1.out _) (grown_of hb2)); have hlo2 := hV2.out.size; have HI2 := Lib.hid (HI1z.out.below hb2); have hbs := hb2.size; have HZ1 := Lib.hid (HZ1z.out.below hb2); clear HI1z HZ1z; (try (have z10 := HZ1.out.range 0 _ rfl; have z11 := HZ1.out.range 1 _ rfl; have z12 := HZ1.out.range 2 _ rfl; have zf1 := HZ1.out.frozen; simp only [Nat.zero_add] at z10 z11 z12))))
         all_goals first
           | (have _ := HZ0
              obtain ⟨B_, hBe⟩ : ∃ b, b = wr.heap.size := ⟨_, rfl⟩
              have HF : StepT w.heap.size g (w.heap.size + 1) c w (n + 4 + 60 * (20 - i) + 60) p (((v2.setCell ⟨B_, 0, none⟩ (.int .i64 p'.clock)).setCell ⟨B_, 1, none⟩ (.bool p'.closed)).setCell ⟨B_, 2, none⟩ (.slice p'.a p'.n p'.c)) B_ p' s := by
                subst hBe
                have hfar : ∀ k, RaceBlk p' k → k ≠ wr.heap.size := fun k hk => by have h1 := (RaceR.lt hr' k hk).1; omega
                have hfar2 : ∀ k, RaceBlk p' k → k ≠ g := fun k hk => by have h1 := (RaceR.lt hr' k hk).1; omega
                refine ⟨HS.out, hk', (((RaceR.mono hr' (by omega)).setFar hfar _).setFar hfar _).setFar hfar _, (((HZ0.out.set 0 (.int .i64 p'.clock)).set 1 (.bool p'.closed)).set 2 (.slice p'.a p'.n p'.c)).range, ?_, hfar2⟩
                exact HI2.out.far hlt (by omega) (by omega) (by omega) (fun k hk => by have h1 := (RaceR.lt HI.out.2.2.2.1 k hk).2; omega) _ _ _
              rw [← hBe]
              generalize (((v2.setCell ⟨B_, 0, none⟩ (.int .i64 p'.clock)).setCell ⟨B_, 1, none⟩ (.bool p'.closed)).setCell ⟨B_, 2, none⟩ (.slice p'.a p'.n p'.c)) = WF at HF ⊢
              exact hk WF B_ p' s HF)
           | (have _ := HZ1
              obtain ⟨B_, hBe⟩ : ∃ b, b = v1.heap.size := ⟨_, rfl⟩
              have HF : StepT w.heap.size g (w.heap.size + 1) c w (n + 4 + 60 * (20 - i) + 60) p (((v2.setCell ⟨B_, 0, none⟩ (.int .i64 p'.clock)).setCell ⟨B_, 1, none⟩ (.bool p'.closed)).setCell ⟨B_, 2, none⟩ (.slice p'.a p'.n p'.c)) B_ p' s := by
                subst hBe
                have hfar : ∀ k, RaceBlk p' k → k ≠ v1.heap.size := fun k hk => by have h1 := (RaceR.lt hr' k hk).1; omega
                have hfar2 : ∀ k, RaceBlk p' k → k ≠ g := fun k hk => by have h1 := (RaceR.lt hr' k hk).1; omega
                refine ⟨HS.out, hk', (((RaceR.mono hr' (by omega)).setFar hfar _).setFar hfar _).setFar hfar _, (((HZ1.out.set 0 (.int .i64 p'.clock)).set 1 (.bool p'.closed)).set 2 (.slice p'.a p'.n p'.c)).range, ?_, hfar2⟩
                exact HI2.out.far hlt (by omega) (by omega) (by omega) (fun k hk => by have h1 := (RaceR.lt HI.out.2.2.2.1 k hk).2; omega) _ _ _
              rw [← hBe]
              generalize (((v2.setCell ⟨B_, 0, none⟩ (.int .i64 p'.clock)).setCell ⟨B_, 1, none⟩ (.bool p'.closed)).setCell ⟨B_, 2, none⟩ (.slice p'.a p'.n p'.c)) = WF at HF ⊢
              exact hk WF B_ p' s HF)
           | (obtain ⟨B_, hBe⟩ : ∃ b, b = v2.heap.size := ⟨_, rfl⟩
              have HF : StepT w.heap.size g (w.heap.size + 1) c w (n + 4 + 60 * (20 - i) + 60) p (v2.alloc (.cells #[.int .i64 p'.clock, .bool p'.closed, .slice p'.a p'.n p'.c] 24)) B_ p' s := by
                subst hBe
                exact StepT.laid HI1.out HS.out hk' hr' hb2 (by omega)
              rw [← hBe]
              generalize (v2.alloc (.cells #[.int .i64 p'.clock, .bool p'.closed, .slice p'.a p'.n p'.c] 24)) = WF at HF ⊢
              exact hk WF B_ p' s HF)
       clear HH hV0 HI0 HI
       rintro W B p' s hT
       have HT := Lib.hid hT
       have hbc := Race.cells hT.2.2.2.1
       simp only [Nat.zero_add] at hbc
       have HI := Lib.hid hT.2.2.2.2.1
       clear hT
       obtain ⟨a0, a1, a2, f0, f1, f2⟩ := HI.out.cells
       cases hs : strB p.k s with
       | false =>
         clear HT hs
         go_wp2_with fail
         go_roundw
         case rel => exact ⟨i - 1, p, by omega, by go_num, HG.out, HI.out.mono (by omega)⟩
         case measure => simp [intOf]; omega
       | true =>
         have HG2 := Lib.hid (show GoodRace p'.k by rw [HT.out.2.1]; exact strV_good hs)
         have HI2 := Lib.hid (HI.out.turn HT.out.2.2.1 HT.out.2.2.2.2.2 (by omega) hlt (by omega))
         clear HT HI HG hs
         go_wp2_with fail
         go_roundw
         case rel => exact ⟨i - 1, p', by omega, by go_num, HG2.out, HI2.out.mono (by omega)⟩
         case measure => simp [intOf]; omega
     · obtain rfl : i = 0 := by omega
       go_wp2_with fail
       go_meet
       exact ⟨p, HG, Lib.hid (HI.out.mono (by omega))⟩
  case rest =>
    clear HG HI
    obtain ⟨p, HG, HI⟩ := hcut
    go_wp2_with fail
    refine (one_dr 4 HI.out.1 (by omega) (by omega)).mono ?_
    rintro e w4 ⟨b, rfl, hd, hg⟩
    replace HI := Lib.hid (HI.out.keptC (by omega) hlt hcg hd hg)
    clear hd hg
    go_upto_if 37 with fail
    go_cut [] (fun wx => ∃ p : Race, Hid (GoodRace p.k) ∧ Hid (InRa w.heap.size g (w.heap.size + 1) c w wx (n + 1206) p))
    case first =>
      cases b with
      | false =>
        go_wp2_with fail
        go_meet
        exact ⟨p, HG, Lib.hid (HI.out.mono (by omega))⟩
      | true =>
        go_upto_block 2 with fail
        go_cut [8] (fun _ wx => ∃ p : Race, Hid (GoodRace p.k) ∧ Hid (InRa w.heap.size g (w.heap.size + 1) c w wx (n + 1206) p))
        case first =>
          go_wp2_with fail
          go_loopw [8] (fun iv wr => ∃ (k : Nat) (p : Race), k ≤ 8 ∧ iv = .int .i64 k ∧ Hid (GoodRace p.k) ∧ Hid (InRa w.heap.size g (w.heap.size + 1) c w wr (n + 1206) p))
            (fun iv _ => 9 - (intOf iv).toNat)
          case atStart => exact ⟨0, p, by omega, rfl, HG.out, HI.out.mono (by omega)⟩
          case round =>
            clear HG HI
            obtain ⟨k, p, hk8, rfl, HG, HI⟩ := hrel
            have hl := good_len HG.out
            have HPN := Lib.hid HI.out.2.2.len
            have hgw : g < wr.heap.size := HI.out.2.2.1.lt
            have hgz : w.heap.size < wr.heap.size := HI.out.2.1.lt
            obtain ⟨a0, a1, a2, f0, f1, f2⟩ := HI.out.cells
            by_cases hkn : k < p.n
            · have hki : (k : Int) < (p.n : Int) := by omega
              have hk8' : k + 1 ≤ 8 := by have := HPN.out; omega
              go_wp2_with fail
              refine (spec_StepRace p p.k ⟨4, (k : Int), 0⟩ wr rfl (RaceR.s HI.out.2.2.2.1) (DrawnSt.ok (s := ⟨4, (k : Int), 0⟩) ⟨by simp only; omega, by simp only; omega, by simp only; omega⟩)).mono ?_
              rintro e w5 ⟨p', rfl, hk', hr', hb5⟩
              clear a0 a1 a2 f0 f1 f2
              have HT := Lib.hid (StepT.laid HI.out (s := ⟨4, (k : Int), 0⟩) ⟨by simp only; omega, by simp only; omega, by simp only; omega⟩ hk' hr' hb5 (by omega))
              replace HI := Lib.hid HT.out.2.2.2.2.1
              have hbc := Race.cells HT.out.2.2.2.1
              simp only [Nat.zero_add] at hbc
              clear hr' hb5 hk'
              go_upto_if 52 with fail
              obtain ⟨a0, a1, a2, f0, f1, f2⟩ := HI.out.cells
              cases hs : strB p.k ⟨4, (k : Int), 0⟩ with
              | false =>
                clear HT hs
                go_wp2_with fail
                go_roundw
                case rel => exact ⟨k + 1, p, hk8', by go_num, HG.out, HI.out⟩
                case measure => simp [intOf]; omega
              | true =>
                have HG2 := Lib.hid (show GoodRace p'.k by rw [HT.out.2.1]; exact strV_good hs)
                have HI2 := Lib.hid (HI.out.turn HT.out.2.2.1 HT.out.2.2.2.2.2 (by omega) hlt (by omega))
                clear HT HI HG hs
                go_wp2_with fail
                go_roundw
                case rel => exact ⟨k + 1, p', hk8', by go_num, HG2.out, HI2.out⟩
                case measure => simp [intOf]; omega
            · have hki : ¬ (k : Int) < (p.n : Int) := by omega
              go_wp2_with fail
              go_meet
              exact ⟨p, HG, HI⟩
        case rest =>
          clear HG HI
          obtain ⟨p, HG, HI⟩ := hcut
          have hgw : g < wc.heap.size := HI.out.2.2.1.lt
          have hgz : w.heap.size < wc.heap.size := HI.out.2.1.lt
          obtain ⟨a0, a1, a2, f0, f1, f2⟩ := HI.out.cells
          go_wp2_with fail
          refine (spec_StepRace p p.k ⟨6, 0, 0⟩ wc rfl (RaceR.s HI.out.2.2.2.1) (DrawnSt.ok (s := ⟨6, 0, 0⟩) ⟨by simp only; omega, by simp only; omega, by simp only; omega⟩)).mono ?_
          rintro e w5 ⟨p', rfl, hk', hr', hb5⟩
          clear a0 a1 a2 f0 f1 f2
          have HT := Lib.hid (StepT.laid HI.out (s := ⟨6, 0, 0⟩) ⟨by simp only; omega, by simp only; omega, by simp only; omega⟩ hk' hr' hb5 (by omega))
          replace HI := Lib.hid HT.out.2.2.2.2.1
          have hbc := Race.cells HT.out.2.2.2.1
          simp only [Nat.zero_add] at hbc
          clear hr' hb5 hk'
          go_upto_if 60 with fail
          obtain ⟨a0, a1, a2, f0, f1, f2⟩ := HI.out.cells
          cases hs : strB p.k ⟨6, 0, 0⟩ with
          | false =>
            clear HT hs
            go_wp2_with fail
            go_meet
            exact ⟨p, HG, HI⟩
          | true =>
            have HG2 := Lib.hid (show GoodRace p'.k by rw [HT.out.2.1]; exact strV_good hs)
            have HI2 := Lib.hid (HI.out.turn HT.out.2.2.1 HT.out.2.2.2.2.2 (by omega) hlt (by omega))
            clear HT HI HG hs
            go_wp2_with fail
            go_meet
            exact ⟨p', HG2, HI2⟩
    case rest =>
      clear HG HI
      obtain ⟨p, HG, HI⟩ := hcut
      go_wp2_with fail
      refine (pick_dr 32 HI.out.1 (by omega) (by omega) (by omega)).mono ?_
      rintro e w4 ⟨x, hx, rfl, hd, hg⟩
      replace HI := Lib.hid (HI.out.keptC (by omega) hlt hcg hd hg)
      clear hd hg
      have hl := good_len HG.out
      go_upto_block 4 with fail
      go_cut [63] (fun _ wx => ∃ p : Race, p.zs.length ≤ 8 ∧ Hid (InRa w.heap.size g (w.heap.size + 1) c w wx (n + 1210) p))
      case first =>
        obtain ⟨a0, a1, a2, f0, f1, f2⟩ := HI.out.cells
        by_cases h0 : (x : Int) = 0
        · go_wp2_with fail
          refine (among_dr [-1, 0, 36001] (-1) 36001 HI.out.1 _ rfl _ _ rfl (by omega) _).mono ?_
          rintro e w5 ⟨v, rfl, hv, hd, hg⟩
          replace HI := Lib.hid (HI.out.keptC (by omega) hlt hcg hd hg)
          clear hd hg
          clear a0 a1 a2 f0 f1 f2
          obtain ⟨a0, a1, a2, f0, f1, f2⟩ := HI.out.cells
          go_wp2_with fail
          go_meet
          exact ⟨⟨v, p.closed, p.a, p.n, p.c, p.zs⟩, hl.2, Lib.hid ((HI.out.put0 hlt hgg v).mono (by omega))⟩
        by_cases h1 : (x : Int) = 1
        · go_wp2_with fail
          go_meet
          exact ⟨⟨p.clock, !p.closed, p.a, p.n, p.c, p.zs⟩, hl.2, Lib.hid ((HI.out.put1 hlt hgg _).mono (by omega))⟩
        by_cases h2 : (x : Int) = 2
        · obtain ⟨cl, cd, A, pn, cc, zs⟩ := p
          simp only at hl
          obtain ⟨q, rfl, rfl, hbq, hqw, hcc, hqg⟩ := HI.out.2.2.form (by omega)
          have hlo0 : w4.heap.size ≤ w4.heap.size := Nat.le_refl _
          have HH := Lib.hid (show ∀ W, w4.grownBy W (some c) → W.cell? ⟨g, 2, none⟩ = some (.slice (some ⟨q, 0, none⟩) zs.length cc) ∧ W.cell? ⟨q, 0, none⟩ = some (.int .i64 zs[0].state) ∧ W.frozen? ⟨q, 0, none⟩ = false from fun W hW => by
            have hh := HI.out.2.2.keptC (by omega) hcg hW
            have hcs := EntR.cells (show EntR (w.heap.size + 1) W (.slice (some ⟨q, 0, none⟩) zs.length cc) zs from hh.2.1) (i := 0) (by omega)
            exact ⟨hh.cells.2.2.1, by simpa using hcs.1, hcs.2.2.2.2.2 _⟩)
          have HV := Lib.hid (show w4.grownBy w4.drew (some c) from grown_of (Below.refl _ _).drew)
          have hz0 : (0 : Int) < (zs.length : Int) := by omega
          have hz2 : 0 < zs.length := by omega
          go_wp2_with fail
          go_region_held3 (fun w' => w'.cell? ⟨g, 2, none⟩ = some (.slice (some ⟨q, 0, none⟩) zs.length cc)) (first | exact ((HI5.out.state hlt (by omega) v).cells).2.2.1 | exact (HH.out _ (by repeat (first | (with_reducible exact hV5.out) | (with_reducible exact HV.out) | (with_reducible exact World.grownBy.refl _ _) | (with_reducible refine grownC_drew ?_) | (with_reducible refine grownC_alloc ?_ _) | (with_reducible refine grownC_alloc ?_ _)))).1)
            (first
              | (go_at_call 87; refine (among_dr [-1, 0, 1, 2, 5] (-1) 5 HI.out.1.drew _ rfl _ _ rfl (by omega) _).mono ?_; rintro e w5 ⟨v, rfl, hv, hd, hg5⟩; have hV5 := Lib.hid (grown_trans HV.out hg5); have HI5 := Lib.hid (HI.out.keptC (by omega) hlt hcg hd hV5.out); obtain ⟨-, hq1, hq2⟩ := HH.out _ hV5.out; clear hd hg5))
          all_goals
            go_wp2_with fail
            go_meet
            exact ⟨⟨cl, cd, some ⟨q, 0, none⟩, zs.length, cc, zs.set 0 ⟨v, zs[0].card⟩⟩, by simpa using hl.2, Lib.hid ((HI5.out.state hlt (by omega) v).mono (by omega))⟩
        by_cases h3 : (x : Int) = 3
        · obtain ⟨-, -, e1, -, -, e2⟩ := (HI.out.below (below_alloc (Below.refl _ _) (.cells #[] 75))).cells
          go_wp2_with fail
          go_meet
          exact ⟨⟨p.clock, p.closed, some ⟨w4.heap.size, 0, none⟩, 0, 0, []⟩, by simp, Lib.hid ((HI.out.emptied hlt hgg).mono (by omega))⟩
        go_wp2_with fail
        go_meet
        exact ⟨p, hl.2, Lib.hid (HI.out.mono (by omega))⟩
      case rest =>
        clear HG HI hl
        obtain ⟨p, hl, HI⟩ := hcut
        obtain ⟨a0, a1, a2, f0, f1, f2⟩ := HI.out.cells
        have hz := HI.out.2.1.range
        have y0 := hz 0 _ rfl
        have y1 := hz 1 _ rfl
        have y2 := hz 2 _ rfl
        have yf := HI.out.2.1.frozen
        simp only [Nat.zero_add] at y0 y1 y2
        go_wp2_with fail
        refine bodyPost_ret (v := .agg #[.int .i64 p.clock, .bool p.closed, .slice p.a p.n p.c]) (by simp [results, Try.results83, go_sem, y0, y1, y2]) rfl ⟨p, rfl, ?_, hl, ?_⟩
        · have hne : ∀ k, RaceBlk p k → k ≠ w.heap.size := fun k hk => by have := (RaceR.lt HI.out.2.2.2.1 k hk).1; omega
          exact RaceR.mono (((HI.out.2.2.2.1.setFar hne _).setFar hne _).setFar hne _) (by omega)
        · exact (HI.out.1.own hlt (grown_trans (grown_trans grown_setCell grown_setCell) grown_setCell) (fun k e => by have := Option.some.inj e; omega)).mono (by omega)
end Go.Proofs.Ytfmgnbkneccekaa
