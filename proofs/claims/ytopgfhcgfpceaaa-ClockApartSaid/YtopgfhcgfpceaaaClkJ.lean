/- What Coming tells comes, tick by tick: plain lists. -/
import Derived.Test.YtopgfhcgfpceaaaClkH
namespace Go.Proofs.Ytopgfhcgfpceaaa
open Go.RowKit

/-- T ticks. -/
def tickA (l : List Alm) : List Alm := l.map (·.step 1)
def ticks : Nat → List Alm → List Alm
  | 0, l => l
  | T + 1, l => ticks T (tickA l)

/-- What expires in T ticks, with its time behind ps. -/
def evs : Nat → List Alm → Int → List (Int × Nat)
  | 0, _, _ => []
  | T + 1, l, ps => ((fired l 1).map fun i => (ps + 1, i)) ++ evs T (tickA l) (ps + 1)

theorem ticks_add (S T : Nat) (l : List Alm) : ticks (S + T) l = ticks T (ticks S l) := by
  induction S generalizing l with
  | zero => simp [ticks]
  | succ S ih => rw [show S + 1 + T = (S + T) + 1 by omega]; exact ih (tickA l)

theorem ticks_succ (T : Nat) (l : List Alm) : ticks (T + 1) l = tickA (ticks T l) := ticks_add T 1 l

theorem evs_add (S T : Nat) (l : List Alm) (ps : Int) : evs (S + T) l ps = evs S l ps ++ evs T (ticks S l) (ps + S) := by
  induction S generalizing l ps with
  | zero => simp [evs, ticks]
  | succ S ih =>
    rw [show S + 1 + T = (S + T) + 1 by omega]
    simp only [evs, ticks]
    rw [ih (tickA l) (ps + 1), List.append_assoc, show (ps + 1 + (S : Int)) = ps + ((S + 1 : Nat) : Int) by omega]

theorem evs_succ (T : Nat) (l : List Alm) (ps : Int) : evs (T + 1) l ps = evs T l ps ++ (fired (ticks T l) 1).map fun i => (ps + T + 1, i) := by
  rw [evs_add T 1 l ps]
  simp [evs]

theorem evs_late (T : Nat) (l : List Alm) (ps : Int) : ∀ x ∈ evs T l ps, ps < x.1 := by
  induction T generalizing l ps with
  | zero => simp [evs]
  | succ T ih =>
    intro x hx
    simp only [evs, List.mem_append, List.mem_map] at hx
    rcases hx with ⟨i, _, rfl⟩ | hx
    · simp only; omega
    · have := ih _ _ x hx; omega

theorem evs_get {S T : Nat} (h : S ≤ T) (l : List Alm) (ps : Int) (i : Nat) (hi : i < (evs S l ps).length) : (evs T l ps)[i]? = (evs S l ps)[i]? := by
  obtain ⟨U, rfl⟩ : ∃ U, T = S + U := ⟨T - S, by omega⟩
  rw [evs_add, List.getElem?_append_left hi]

theorem evs_length_mono {S T : Nat} (h : S ≤ T) (l : List Alm) (ps : Int) : (evs S l ps).length ≤ (evs T l ps).length := by
  obtain ⟨U, rfl⟩ : ∃ U, T = S + U := ⟨T - S, by omega⟩
  rw [evs_add, List.length_append]
  omega

theorem evs_after {S T : Nat} (l : List Alm) (ps : Int) (i : Nat) (x : Int × Nat) (hi : (evs S l ps).length ≤ i) (hx : (evs T l ps)[i]? = some x) : ps + S < x.1 := by
  have hlt := (List.getElem?_eq_some_iff.1 hx).1
  have hST : S ≤ T := by
    rcases Nat.le_total S T with h | h
    · exact h
    · have := evs_length_mono h l ps; omega
  obtain ⟨U, rfl⟩ : ∃ U, T = S + U := ⟨T - S, by omega⟩
  rw [evs_add, List.getElem?_append_right hi] at hx
  exact evs_late U _ _ x (List.mem_of_getElem? hx)

/- From one expiring to the next. -/

/-- An alarm that has j ticks less. -/
def Alm.less (a : Alm) (j : Int) : Alm := bif a.set then { a with left := a.left - j } else a

theorem fired_nil {l : List Alm} {d : Int} (h : ∀ a ∈ l, a.fires d = false) : fired l d = [] := by
  unfold fired firedTo
  rw [List.filter_eq_nil_iff]
  intro i hi
  have hlt : i < l.length := by simpa using hi
  simp [hlt, h _ (List.getElem_mem hlt)]

theorem fired_congr {l l' : List Alm} {d d' : Int} (hl : l.length = l'.length) (h : ∀ i (h1 : i < l.length) (h2 : i < l'.length), l[i].fires d = l'[i].fires d') : fired l d = fired l' d' := by
  unfold fired firedTo
  rw [hl]
  apply List.filter_congr
  intro i hi
  have h2 : i < l'.length := by simpa using hi
  have h1 : i < l.length := by omega
  simp [h1, h2, h i h1 h2]

/-- While nobody expires each tick takes one from what is left. -/
theorem ticks_less (al : List Alm) (d : Nat) (hd : ∀ a ∈ al, a.set = true → (d : Int) ≤ a.left) : ∀ j : Nat, j < d → ticks j al = al.map (·.less j) ∧ ∀ ps, evs j al ps = [] := by
  intro j
  induction j with
  | zero =>
    intro _
    refine ⟨?_, fun ps => rfl⟩
    have : ∀ a : Alm, a.less 0 = a := by intro a; obtain ⟨s, l, y⟩ := a; cases s <;> simp [Alm.less]
    simp [ticks, this]
  | succ j ih =>
    intro hj
    obtain ⟨h1, h2⟩ := ih (by omega)
    refine ⟨?_, fun ps => ?_⟩
    · rw [ticks_succ, h1, tickA, List.map_map]
      apply List.map_congr_left
      intro a ha
      have := hd a ha
      simp only [Function.comp, Alm.less]
      cases hs : a.set with
      | false => simp [Alm.step, hs]
      | true =>
        have := this hs
        simp only [cond_true, Alm.step]
        rw [if_neg (by simp), if_pos (by omega)]
        congr 1
        omega
    · rw [evs_succ, h2, h1, fired_nil]
      · rfl
      · intro b hb
        obtain ⟨a, ha, rfl⟩ := List.mem_map.1 hb
        have := hd a ha
        cases hs : a.set with
        | false => simp [Alm.less, hs, Alm.fires]
        | true =>
          have := this hs
          simp [Alm.less, hs, Alm.fires]
          omega

/-- The d ticks to the next expiring, at once. -/
theorem ticks_soonest (al : List Alm) (d : Nat) (h1 : 1 ≤ d) (hd : ∀ a ∈ al, a.set = true → (d : Int) ≤ a.left) (ps : Int) :
    ticks d al = al.map (·.step d) ∧ evs d al ps = (fired al d).map fun i => (ps + d, i) := by
  obtain ⟨j, rfl⟩ : ∃ j, d = j + 1 := ⟨d - 1, by omega⟩
  obtain ⟨e1, e2⟩ := ticks_less al (j + 1) hd j (by omega)
  have key : ∀ a ∈ al, (a.less j).step 1 = a.step ((j + 1 : Nat) : Int) := by
    intro a ha
    have := hd a ha
    obtain ⟨s, l, y⟩ := a
    cases s with
    | false => rfl
    | true =>
      have h := this rfl
      simp only at h
      show Alm.step ⟨true, l - j, y⟩ 1 = Alm.step ⟨true, l, y⟩ ((j + 1 : Nat) : Int)
      unfold Alm.step
      simp only [Bool.true_eq_false, if_false]
      by_cases h0 : l - ((j + 1 : Nat) : Int) > 0
      · rw [if_pos (by omega), if_pos h0]; congr 1; omega
      · rw [if_neg (by omega), if_neg h0]
  refine ⟨?_, ?_⟩
  · rw [ticks_succ, e1, tickA, List.map_map]
    exact List.map_congr_left key
  · rw [evs_succ, e2, e1, List.nil_append]
    have hf : fired (al.map (·.less j)) 1 = fired al ((j + 1 : Nat) : Int) := by
      apply fired_congr (by simp)
      intro i h1 h2
      simp only [List.getElem_map]
      have := hd al[i] (List.getElem_mem h2)
      unfold Alm.fires Alm.less
      cases hs : al[i].set with
      | false => simp [hs]
      | true =>
        simp only [cond_true, Bool.true_and]
        congr 1
        simp only [eq_iff_iff]
        omega
    rw [hf]
    apply List.map_congr_left
    intro i _
    congr 1
    omega

theorem soonest_none {l : List Alm} (h : (soonest l).2 = false) : ∀ a ∈ l, a.set = false := by
  intro a ha
  cases hs : a.set with
  | false => rfl
  | true => have := (soonest_le l a ha hs).1; rw [h] at this; cases this

/-- Coming gathers what comes. -/
theorem comingGo_evs (m : Nat) : ∀ (f : Nat) (al : List Alm) (ps : Int) (acc : List (Int × Nat)), (∀ a ∈ al, a.set = true → 1 ≤ a.left) → (∀ a ∈ al, 0 ≤ a.cycle) → m < f + acc.length →
    ∃ T, comingGo f al ps m acc = acc ++ evs T al ps ∧ (m ≤ (comingGo f al ps m acc).length ∨ ∀ a ∈ ticks T al, a.set = false) := by
  intro f
  induction f with
  | zero =>
    intro al ps acc _ _ hm
    exact ⟨0, by simp [comingGo, evs], .inl (by simp [comingGo]; omega)⟩
  | succ f ih =>
    intro al ps acc hal hcy hm
    by_cases hlt : acc.length < m
    · cases hs : (soonest al).2 with
      | false => exact ⟨0, by simp [comingGo, hs, evs], .inr (by simpa [ticks] using soonest_none hs)⟩
      | true =>
        obtain ⟨b, hb, hb1, hb2⟩ := soonest_att al hs
        have hd1 : 1 ≤ (soonest al).1 := by rw [← hb2]; exact hal b hb hb1
        obtain ⟨d, hd⟩ : ∃ d : Nat, (soonest al).1 = d := ⟨(soonest al).1.toNat, by omega⟩
        have hle : ∀ a ∈ al, a.set = true → (d : Int) ≤ a.left := fun a ha hs' => by rw [← hd]; exact (soonest_le al a ha hs').2
        obtain ⟨t1, t2⟩ := ticks_soonest al d (by omega) hle ps
        have hfp := fired_pos al hs
        rw [hd] at hfp
        have hal' : ∀ a ∈ al.map (·.step (d : Int)), a.set = true → 1 ≤ a.left := by
          intro a ha hs'
          obtain ⟨x, hx, rfl⟩ := List.mem_map.1 ha
          unfold Alm.step at hs' ⊢
          by_cases hxs : x.set = false
          · simp [hxs] at hs'
          · rw [if_neg hxs] at hs' ⊢
            by_cases h0 : x.left - (d : Int) > 0
            · rw [if_pos h0]; simp only; omega
            · rw [if_neg h0] at hs' ⊢
              by_cases hc : x.cycle = 0
              · rw [if_pos hc] at hs'; simp [Alm.zero] at hs'
              · rw [if_neg hc]; have := hcy x hx; simp only; omega
        have hcy' : ∀ a ∈ al.map (·.step (d : Int)), 0 ≤ a.cycle := by
          intro a ha
          obtain ⟨x, hx, rfl⟩ := List.mem_map.1 ha
          have := hcy x hx
          unfold Alm.step
          split
          · exact this
          · split
            · exact this
            · split
              · simp [Alm.zero]
              · exact this
        obtain ⟨T, h1, h2⟩ := ih (al.map (·.step (d : Int))) (ps + d) (acc ++ (fired al d).map fun i => (ps + d, i)) hal' hcy' (by simp only [List.length_append, List.length_map]; omega)
        have e : comingGo (f + 1) al ps m acc = comingGo f (al.map (·.step (d : Int))) (ps + d) m (acc ++ (fired al d).map fun i => (ps + d, i)) := by
          simp only [comingGo, hlt, if_true, hs, cond_true, hd]
        refine ⟨d + T, ?_, ?_⟩
        · rw [e, h1, evs_add, t1, t2, List.append_assoc]
        · rw [e, ticks_add, t1]
          exact h2
    · exact ⟨0, by simp [comingGo, hlt, evs], .inl (by simp [comingGo, hlt]; omega)⟩

/-- Nobody expires: those that are set stay so. -/
theorem set_stays (U : Nat) : ∀ (l : List Alm) (ps : Int), evs U l ps = [] → (∀ a ∈ ticks U l, a.set = false) → ∀ a ∈ l, a.set = false := by
  induction U with
  | zero => intro l ps _ h; exact h
  | succ U ih =>
    intro l ps he h a ha
    simp only [evs, List.append_eq_nil_iff, List.map_eq_nil_iff] at he
    have h1 := ih (tickA l) (ps + 1) he.2 h
    cases hs : a.set with
    | false => rfl
    | true =>
      have h2 := h1 (a.step 1) (List.mem_map_of_mem ha)
      obtain ⟨i, hi, rfl⟩ := List.getElem_of_mem ha
      have hf : (l[i]).fires 1 = false := by
        have := he.1
        unfold fired firedTo at this
        rw [List.filter_eq_nil_iff] at this
        have := this i (by simpa using hi)
        simpa [hi] using this
      simp only [Alm.fires, hs, Bool.true_and, decide_eq_false_iff_not] at hf
      simp only [Alm.step, hs] at h2
      rw [if_neg (by simp), if_pos (by omega)] at h2
      simp at h2

theorem unset_stays (U : Nat) : ∀ (l : List Alm), (∀ a ∈ l, a.set = false) → ∀ a ∈ ticks U l, a.set = false := by
  induction U with
  | zero => intro l h; exact h
  | succ U ih =>
    intro l h
    refine ih (tickA l) ?_
    intro a ha
    obtain ⟨x, hx, rfl⟩ := List.mem_map.1 ha
    have := h x hx
    simp [Alm.step, this]

end Go.Proofs.Ytopgfhcgfpceaaa
