/- Rings as plain data: what space, Last, First, Take, Clear do. -/
import Derived.Test.YtopgfhcgfpceaaaRngA
namespace Go.Proofs.Ytopgfhcgfpceaaa
open Go.RowKit

/-- Grown, where it is full of what it has. -/
def Rg.space (r : Rg) : Rg :=
  if r.n = r.cells.length then { r with cells := r.items ++ List.replicate (min r.room (2 * r.n + 4) - r.n) 0, from_ := 0 } else r

theorem Rg.space_n (r : Rg) : r.space.n = r.n := by unfold Rg.space; split <;> rfl
theorem Rg.space_room (r : Rg) : r.space.room = r.room := by unfold Rg.space; split <;> rfl
theorem Rg.space_high (r : Rg) : r.space.high = r.high := by unfold Rg.space; split <;> rfl

theorem Rg.space_lt {r : Rg} (h : r.wf) (hn : r.n < r.room) : r.n < r.space.cells.length := by
  unfold Rg.space
  split
  · simp [Rg.items_length]; omega
  · have := h.n; omega

theorem Rg.space_items (r : Rg) : r.space.items = r.items := by
  unfold Rg.space
  split
  · rename_i hn
    have hl := r.items_length
    have key : ∀ (l : List Int) (m k : Nat), l.length = m → (List.range m).map (fun i => (l ++ List.replicate k 0)[(0 + i) % (l ++ List.replicate k (0 : Int)).length]?.getD 0) = l := by
      intro l m k hm
      apply List.ext_getElem?
      intro i
      by_cases hi : i < m
      · rw [List.getElem?_map, List.getElem?_range hi, Option.map_some, Nat.zero_add, Nat.mod_eq_of_lt (by simp; omega), List.getElem?_append_left (by omega), List.getElem?_eq_getElem (by omega), Option.getD_some]
      · rw [List.getElem?_eq_none (by simp; omega), List.getElem?_eq_none (by omega)]
    exact key r.items r.n _ hl
  · rfl

theorem Rg.space_wf {r : Rg} (h : r.wf) : r.space.wf := by
  have h1 := h.room
  have h2 := h.n
  have h3 := h.hi
  have h4 := h.hi2
  unfold Rg.space
  split
  · exact ⟨h1, by simp [Rg.items_length]; omega, by simp [Rg.items_length], by simp, fun h => h, h3, h4⟩
  · exact h

end Go.Proofs.Ytopgfhcgfpceaaa
