/- The library's sort on a row of groups of cells, in the words of rows. No condition. -/
import Derived.Shelf.GgSortFunc.InsertionK
import Derived.Test.YtabgmbmaakglkaaReg
import Derived.Test.YtabgmbmaakglkaaSortQ
import Derived.Test.YtabgmbmaakglkaaGrow
namespace Go.Proofs.Ytabgmbmaakglkaa
open Go Go.RowKit

/-- What draws and lays blocks alone. -/
def Gr (W w' : World) : Prop := ∃ q os', w' = Sort.grow (W.drewN q) os'
theorem Gr.refl (W : World) : Gr W W := ⟨0, #[], by simp [Sort.grow, World.drewN]⟩
theorem Gr.alloc {W w' : World} (h : Gr W w') (o : Obj) : Gr W (w'.alloc o) := by
  obtain ⟨q, os, rfl⟩ := h
  exact ⟨q, os ++ #[o], by rw [Sort.alloc_eq_grow, Sort.grow_grow]⟩
theorem Gr.drew {W w' : World} (h : Gr W w') : Gr W w'.drew := by
  obtain ⟨q, os, rfl⟩ := h
  exact ⟨q + 1, os, by simp [Sort.grow, World.drewN, World.drew, Nat.add_assoc]⟩

section
variable {α : Type} [Inhabited α] {enc : α → List Value} {sz : Nat}
theorem flatK_list (hl : ∀ x, (enc x).length = sz) (hs : 0 < sz) (d : Array α) : (Sort.flatK enc sz d).toList = (d.toList.map enc).flatten := by
  have hy : ∀ y ∈ d.toList.map enc, y.length = sz := by
    intro y hy
    obtain ⟨x, _, rfl⟩ := List.mem_map.1 hy
    exact hl x
  have hfl := flat_len sz _ hy
  apply List.ext_getElem (by rw [hfl]; simp)
  intro t h1 h2
  have ht : t < d.size * sz := by simpa using h1
  have hi : t / sz < d.size := Nat.div_lt_of_lt_mul (by rw [Nat.mul_comm]; exact ht)
  have hj : t % sz < sz := Nat.mod_lt _ hs
  have e1 : t = t / sz * sz + t % sz := by rw [Nat.mul_comm]; exact (Nat.div_add_mod _ _).symm
  have h3 := flat_get sz _ hy (t / sz) (t % sz) (by simpa using hi) hj
  rw [← e1] at h3
  have h4 := Sort.get_flatK enc sz d t ht
  apply Option.some.inj
  rw [← List.getElem?_eq_getElem h2, h3]
  have h5 : (Sort.flatK enc sz d).toList[t] = (Sort.flatK enc sz d)[t]! := by
    rw [getElem!_pos _ _ (by simpa using h1)]; simp
  rw [h5, h4]
  simp only [List.getElem_map, Array.getElem_toList, getElem!_pos d (t / sz) hi]
  rw [getElem!_pos _ _ (by rw [hl]; exact hj), List.getElem?_eq_getElem (by rw [hl]; exact hj)]
theorem holdsK_of_row {base : Nat} {e : TypeId} {w : World} {g n cap : Nat} {xs : List α} (h : Row base e sz w (.slice (some ⟨g, 0, none⟩) n cap) (xs.map enc)) (hl : ∀ x, (enc x).length = sz) (hs : 0 < sz) : Sort.HoldsK enc sz w g 0 xs.toArray := by
  intro t ht
  simp only [Sort.size_flatK, List.size_toArray] at ht
  have hi : t / sz < xs.length := Nat.div_lt_of_lt_mul (by rw [Nat.mul_comm]; exact ht)
  have hj : t % sz < sz := Nat.mod_lt _ hs
  have e1 : t = t / sz * sz + t % sz := by rw [Nat.mul_comm]; exact (Nat.div_add_mod _ _).symm
  have hc := h.cell (k := t / sz) (j := t % sz) (by simpa using hi) hj
  rw [← e1] at hc
  rw [Nat.zero_add, Sort.get_flatK enc sz xs.toArray t (by simpa using ht)]
  refine ⟨?_, h.frozen t⟩
  rw [hc]
  simp only [List.getElem_map, id]
  rw [getElem!_pos xs.toArray (t / sz) (by simpa using hi), List.getElem_toArray, getElem!_pos _ _ (by rw [hl]; exact hj), List.getElem?_eq_getElem (by rw [hl]; exact hj)]
theorem Row.sorted_ {base : Nat} {e : TypeId} {w : World} {g n cap : Nat} {xs : List α} (h : Row base e sz w (.slice (some ⟨g, 0, none⟩) n cap) (xs.map enc)) (hl : ∀ x, (enc x).length = sz) (hs : 0 < sz)
    (d' : Array α) (hd : d'.size = xs.length) (m : Nat) (os : Array Obj) :
    Row base e sz (Proofs.sortWorldK enc sz w g 0 m d' os) (.slice (some ⟨g, 0, none⟩) n cap) (d'.toList.map enc) ∧ w.grownBy (Proofs.sortWorldK enc sz w g 0 m d' os) (some g) := by
  have hy : ∀ y ∈ d'.toList.map enc, y.length = sz := by
    intro y hy
    obtain ⟨x, _, rfl⟩ := List.mem_map.1 hy
    exact hl x
  have hfl := flat_len sz _ hy
  simp only [List.length_map, Array.length_toList] at hfl
  refine ⟨⟨hy, ?_⟩, ⟨rfl, rfl, rfl, ?_, fun k hk hne => ?_⟩⟩
  · rcases h.2.2 with ⟨h', _⟩ | ⟨g', cap', cur, h', hb, hg, hnc, hcm, hcs, htake⟩
    · simp at h'
    · simp only [Value.slice.injEq, Option.some.injEq, Addr.mk.injEq, and_true] at h'
      obtain ⟨rfl, hnn, rfl⟩ := h'
      simp only [List.length_map] at hnn hnc htake ⊢
      rw [Array.length_toList, hd]
      have hgl : g < w.heap.size := (Array.getElem?_eq_some_iff.1 hg).1
      have hle : xs.length * sz ≤ cap * sz := Nat.mul_le_mul_right _ hnc
      refine ⟨by rw [hfl, hd], .inr ⟨g, cap, Sort.putCells id 0 (Sort.flatK enc sz d') cur, by rw [hnn], hb, ?_, hnc, hcm, by simp [Sort.putCells, hcs], ?_⟩⟩
      · unfold Proofs.sortWorldK Sort.putRowK
        rw [Sort.heap_grow_old _ _ (by simpa using hgl)]
        simp [Sort.putRow, Sort.mapBlock, Sort.ahead, Array.getElem?_modify, hg, Sort.onCells]
      · rw [← flatK_list hl hs]
        have hsz : (Sort.flatK enc sz d').size = xs.length * sz := by simp [hd]
        have e1 : (Sort.putCells id 0 (Sort.flatK enc sz d') cur).toList.length = cap * sz := by simp [Sort.putCells, hcs]
        have e2 : (Sort.flatK enc sz d').toList.length = xs.length * sz := (Array.length_toList).trans hsz
        apply List.ext_getElem (by rw [List.length_take, e1, e2]; exact Nat.min_eq_left hle)
        intro t h1 h2
        have ht : t < xs.length * sz := e2 ▸ h2
        simp only [List.getElem_take, Array.getElem_toList, Sort.putCells, Array.getElem_mapIdx]
        rw [if_pos ⟨Nat.zero_le _, by rw [hsz]; omega⟩, Nat.sub_zero, getElem!_pos _ _ (by rw [hsz]; exact ht)]
        rfl
  · simp [Proofs.sortWorldK, Sort.putRowK]
  · unfold Proofs.sortWorldK Sort.putRowK
    rw [Sort.heap_grow_old _ _ (by simpa using hk)]
    have : g ≠ k := fun e => hne (by rw [e])
    simp [Sort.putRow, Sort.mapBlock, Sort.ahead, Array.getElem?_modify, this]
end



end Go.Proofs.Ytabgmbmaakglkaa
