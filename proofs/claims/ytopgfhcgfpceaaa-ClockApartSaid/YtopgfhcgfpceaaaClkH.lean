/- Coming, as plain data. -/
import Derived.Test.YtopgfhcgfpceaaaClkG
namespace Go.Proofs.Ytopgfhcgfpceaaa
open Go.RowKit

theorem soonest_fold_true (l : List Alm) (s : Int × Bool) (h : s.2 = true) : (l.foldl soonStep s).2 = true ∧ (l.foldl soonStep s).1 ≤ s.1 ∧ ∀ a ∈ l, a.set = true → (l.foldl soonStep s).1 ≤ a.left := by
  induction l generalizing s with
  | nil => exact ⟨h, Int.le_refl _, by simp⟩
  | cons a l ih =>
    have h1 : (soonStep s a).2 = true := by unfold soonStep; cases a.set <;> simp [h]
    have h2 : (soonStep s a).1 ≤ s.1 := by
      unfold soonStep
      cases a.set
      · simp
      · simp only [cond_true, h]; omega
    have h3 : a.set = true → (soonStep s a).1 ≤ a.left := by
      intro ha
      unfold soonStep
      simp only [ha, cond_true, h]; omega
    obtain ⟨i1, i2, i3⟩ := ih _ h1
    refine ⟨i1, by simp only [List.foldl_cons]; omega, ?_⟩
    intro b hb hbs
    rcases List.mem_cons.1 hb with rfl | hb
    · have := h3 hbs; simp only [List.foldl_cons]; omega
    · exact i3 b hb hbs

theorem soonest_le (l : List Alm) : ∀ a ∈ l, a.set = true → (soonest l).2 = true ∧ (soonest l).1 ≤ a.left := by
  have key : ∀ (l : List Alm) (s : Int × Bool), ∀ a ∈ l, a.set = true → (l.foldl soonStep s).2 = true ∧ (l.foldl soonStep s).1 ≤ a.left := by
    intro l
    induction l with
    | nil => intro s a ha; simp at ha
    | cons b l ih =>
      intro s a ha has
      rcases List.mem_cons.1 ha with rfl | ha
      · have h1 : (soonStep s a).2 = true := by unfold soonStep; simp [has]
        have h2 : (soonStep s a).1 ≤ a.left := by
          unfold soonStep
          simp only [has, cond_true]
          cases s.2 <;> simp <;> omega
        obtain ⟨i1, i2, _⟩ := soonest_fold_true l _ h1
        exact ⟨i1, by simp only [List.foldl_cons]; omega⟩
      · exact ih _ a ha has
  exact key l _

theorem soonest_att (l : List Alm) (h : (soonest l).2 = true) : ∃ a ∈ l, a.set = true ∧ a.left = (soonest l).1 := by
  have key : ∀ (l : List Alm) (s : Int × Bool), (l.foldl soonStep s).2 = true → (s.2 = true ∧ (l.foldl soonStep s).1 = s.1) ∨ ∃ a ∈ l, a.set = true ∧ a.left = (l.foldl soonStep s).1 := by
    intro l
    induction l with
    | nil => intro s hs; exact .inl ⟨hs, rfl⟩
    | cons b l ih =>
      intro s hs
      rcases ih (soonStep s b) hs with ⟨h1, h2⟩ | ⟨a, ha, h1, h2⟩
      · cases hb : b.set with
        | false =>
          have e : soonStep s b = s := by unfold soonStep; simp [hb]
          rw [e] at h1 h2
          exact .inl ⟨h1, by rw [List.foldl_cons, e]; exact h2⟩
        | true =>
          cases hs2 : s.2 with
          | false =>
            have e : soonStep s b = (b.left, true) := by unfold soonStep; simp [hb, hs2]
            exact .inr ⟨b, by simp, hb, by rw [List.foldl_cons, h2, e]⟩
          | true =>
            have e : soonStep s b = (min s.1 b.left, true) := by unfold soonStep; simp [hb, hs2]
            by_cases hm : s.1 ≤ b.left
            · exact .inl ⟨rfl, by rw [List.foldl_cons, h2, e]; simp only; omega⟩
            · exact .inr ⟨b, by simp, hb, by rw [List.foldl_cons, h2, e]; simp only; omega⟩
      · exact .inr ⟨a, by simp [ha], h1, h2⟩
  rcases key l _ h with ⟨h1, _⟩ | h1
  · simp at h1
  · exact h1

theorem fired_pos (l : List Alm) (h : (soonest l).2 = true) : 1 ≤ (fired l (soonest l).1).length := by
  obtain ⟨a, ha, h1, h2⟩ := soonest_att l h
  obtain ⟨i, hi, rfl⟩ := List.getElem_of_mem ha
  have : i ∈ fired l (soonest l).1 := by
    unfold fired firedTo
    rw [List.mem_filter]
    refine ⟨by simpa using hi, ?_⟩
    simp [Alm.fires, hi, h1, h2]
  exact List.length_pos_of_mem this

/-- What Coming gathers, f rounds at most. -/
def comingGo : Nat → List Alm → Int → Nat → List (Int × Nat) → List (Int × Nat)
  | 0, _, _, _, acc => acc
  | f + 1, al, ps, m, acc =>
    if acc.length < m then
      bif (soonest al).2 then comingGo f (al.map (·.step (soonest al).1)) (ps + (soonest al).1) m (acc ++ (fired al (soonest al).1).map fun i => (ps + (soonest al).1, i)) else acc
    else acc

def Clk.coming (c : Clk) (most : Int) : List (Int × Nat) := (comingGo ((min most 65536).toNat + 1) c.al 0 (min most 65536).toNat []).take (min most 65536).toNat

end Go.Proofs.Ytopgfhcgfpceaaa
