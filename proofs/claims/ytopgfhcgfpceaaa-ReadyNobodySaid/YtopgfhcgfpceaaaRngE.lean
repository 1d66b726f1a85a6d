/- Rings as plain data: what Last, First, Take, Clear leave; nothing of the program in sight. -/
import Derived.Test.YtopgfhcgfpceaaaRngB
namespace Go.Proofs.Ytopgfhcgfpceaaa

theorem mod_ne {a b len : Nat} (h : a < b) (h2 : b < a + len) : a % len ≠ b % len := by
  intro e
  have h3 := Nat.sub_mod_eq_zero_of_mod_eq e.symm
  rw [Nat.mod_eq_of_lt (by omega)] at h3
  omega

theorem items_congr {n : Nat} {f g : Nat → Int} (h : ∀ i, i < n → f i = g i) : (List.range n).map f = (List.range n).map g := by
  apply List.map_congr_left
  intro i hi
  exact h i (by simpa using hi)

theorem items_get (r : Rg) (i : Nat) (h : i < r.n) : r.items[i]? = some (r.cells[(r.from_ + i) % r.cells.length]?.getD 0) := by
  unfold Rg.items
  rw [List.getElem?_map, List.getElem?_range h]
  rfl

theorem getD_set_ne {l : List Int} {i j : Nat} (v : Int) (h : i ≠ j) : (l.set i v)[j]?.getD 0 = l[j]?.getD 0 := by
  rw [List.getElem?_set_ne h]

theorem getD_set_eq {l : List Int} {i : Nat} (v : Int) (h : i < l.length) : (l.set i v)[i]?.getD 0 = v := by
  rw [List.getElem?_set_self h]
  rfl

/-- One thing behind all others. -/
def Rg.push (s : Rg) (v : Int) : Rg := { s with cells := s.cells.set ((s.from_ + s.n) % s.cells.length) v, n := s.n + 1, high := max s.high (s.n + 1) }

theorem Rg.push_items (s : Rg) (v : Int) (h : s.n < s.cells.length) : (s.push v).items = s.items ++ [v] := by
  have hl : 0 < s.cells.length := by omega
  unfold Rg.items Rg.push
  simp only [List.length_set]
  rw [List.range_succ, List.map_append]
  congr 1
  · apply items_congr
    intro i hi
    exact getD_set_ne v (Ne.symm (mod_ne (by omega) (by omega)))
  · simp only [List.map_cons, List.map_nil]
    rw [getD_set_eq v (Nat.mod_lt _ hl)]

theorem Rg.push_wf {s : Rg} (v : Int) (h : s.wf) (h2 : s.n < s.cells.length) : (s.push v).wf := by
  have h3 := h.len
  have h4 := h.hi
  have h5 := h.hi2
  have h6 := h.fr
  have h7 := h.fr2 (by omega)
  unfold Rg.push
  refine ⟨h.room, by simpa using h3, by simp; omega, by simpa using h6, by simpa using fun _ => h7, by simp; omega, by simp; omega⟩

/-- One thing ahead of all others. -/
def Rg.front (s : Rg) (v : Int) : Rg := { s with from_ := (s.from_ + s.cells.length - 1) % s.cells.length, cells := s.cells.set ((s.from_ + s.cells.length - 1) % s.cells.length) v, n := s.n + 1, high := max s.high (s.n + 1) }

theorem Rg.front_items (s : Rg) (v : Int) (h : s.n < s.cells.length) : (s.front v).items = v :: s.items := by
  have hl : 0 < s.cells.length := by omega
  unfold Rg.items Rg.front
  simp only [List.length_set]
  rw [List.range_succ_eq_map, List.map_cons, List.map_map]
  congr 1
  · rw [Nat.add_zero, Nat.mod_mod, getD_set_eq v (Nat.mod_lt _ hl)]
  · apply items_congr
    intro i hi
    simp only [Function.comp]
    rw [Nat.mod_add_mod, show s.from_ + s.cells.length - 1 + i.succ = s.from_ + i + s.cells.length by omega, Nat.add_mod_right]
    refine getD_set_ne v ?_
    have := @mod_ne (s.from_ + i) (s.from_ + s.cells.length - 1) s.cells.length (by omega) (by omega)
    exact Ne.symm this

theorem Rg.front_wf {s : Rg} (v : Int) (h : s.wf) (h2 : s.n < s.cells.length) : (s.front v).wf := by
  have hl : 0 < s.cells.length := by omega
  have h3 := h.len
  have h4 := h.hi
  have h5 := h.hi2
  have hm := Nat.mod_lt (s.from_ + s.cells.length - 1) hl
  unfold Rg.front
  refine ⟨h.room, by simpa using h3, by simp; omega, by simp; omega, by simpa using fun _ => hm, by simp; omega, by simp; omega⟩

/-- Without the first thing. -/
def Rg.rest (s : Rg) : Rg := { s with cells := s.cells.set s.from_ 0, from_ := (s.from_ + 1) % s.cells.length, n := s.n - 1 }

theorem Rg.rest_items (s : Rg) (h : s.wf) (hn : 0 < s.n) : s.items = (s.cells[s.from_]?.getD 0) :: s.rest.items := by
  have h1 := h.n
  have hf := h.fr2 (by omega)
  unfold Rg.items Rg.rest
  simp only [List.length_set]
  obtain ⟨m, hm⟩ : ∃ m, s.n = m + 1 := ⟨s.n - 1, by omega⟩
  rw [hm, List.range_succ_eq_map, List.map_cons, List.map_map, Nat.add_sub_cancel]
  congr 1
  · rw [Nat.add_zero, Nat.mod_eq_of_lt hf]
  · apply items_congr
    intro i hi
    simp only [Function.comp]
    rw [Nat.mod_add_mod, show s.from_ + i.succ = s.from_ + 1 + i by omega]
    refine (getD_set_ne 0 ?_).symm
    have := @mod_ne s.from_ (s.from_ + 1 + i) s.cells.length (by omega) (by omega)
    rwa [Nat.mod_eq_of_lt hf] at this

theorem Rg.rest_wf {s : Rg} (h : s.wf) (hn : 0 < s.n) : s.rest.wf := by
  have h1 := h.n
  have h3 := h.len
  have h4 := h.hi
  have h5 := h.hi2
  have hl : 0 < s.cells.length := by omega
  have hm := Nat.mod_lt (s.from_ + 1) hl
  unfold Rg.rest
  refine ⟨h.room, by simpa using h3, by simp; omega, by simp; omega, by simpa using fun _ => hm, by simp; omega, h5⟩

/-- Without all things. -/
def Rg.none_ (s : Rg) : Rg := { s with cells := List.replicate s.cells.length 0, from_ := 0, n := 0 }

theorem Rg.none_items (s : Rg) : s.none_.items = [] := rfl

theorem Rg.none_wf {s : Rg} (h : s.wf) : s.none_.wf := by
  have h3 := h.len
  have h5 := h.hi2
  unfold Rg.none_
  exact ⟨h.room, by simpa using h3, by simp, by simp, by simp, by simp, h5⟩

/-- An empty ring. -/
def Rg.new (room : Nat) : Rg := ⟨room, [], 0, 0, 0⟩

theorem Rg.new_wf {room : Nat} (h : room ≤ 65536) : (Rg.new room).wf := ⟨h, by simp [Rg.new], by simp [Rg.new], by simp [Rg.new], by simp [Rg.new], by simp [Rg.new], by simp [Rg.new]⟩

end Go.Proofs.Ytopgfhcgfpceaaa
