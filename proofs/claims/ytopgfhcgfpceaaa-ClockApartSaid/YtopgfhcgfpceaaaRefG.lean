/- What the document's Coming reckons is what the ticks give: plain lists. -/
import Derived.Test.YtopgfhcgfpceaaaClkL
namespace Go.Proofs.Ytopgfhcgfpceaaa
open Go.RowKit

/-- Does an alarm expire at the t-th tick from now? -/
def fire (a : Alm) (t : Int) : Bool := a.set && (decide (t = a.left) || (decide (0 < a.cycle) && decide (a.left < t) && decide ((t - a.left) % a.cycle = 0)))

structure Alm.ok (a : Alm) : Prop where
  on : a.set = true → 1 ≤ a.left
  c0 : 0 ≤ a.cycle

theorem Alm.ok_step {a : Alm} (h : a.ok) : (a.step 1).ok := by
  unfold Alm.step
  split
  · exact h
  · split
    · exact ⟨fun _ => by simp; omega, h.c0⟩
    · split
      · exact ⟨fun h => by simp [Alm.zero] at h, by simp [Alm.zero]⟩
      · rename_i hc
        have := h.c0
        exact ⟨fun _ => by simp; omega, h.c0⟩

theorem fire_one {a : Alm} (h : a.ok) : a.fires 1 = fire a 1 := by
  unfold Alm.fires fire
  cases hs : a.set
  · rfl
  · have := h.on hs
    simp only [Bool.true_and]
    rw [Bool.eq_iff_iff]
    simp
    omega

theorem fire_step {a : Alm} (h : a.ok) (t : Int) (ht : 1 ≤ t) : fire (a.step 1) t = fire a (t + 1) := by
  unfold Alm.step
  cases hs : a.set
  · simp [fire, hs]
  · have h1 := h.on hs
    have h2 := h.c0
    simp only [Bool.true_eq_false, if_false]
    split
    · rename_i h3
      unfold fire
      dsimp only
      rw [hs, show t + 1 - a.left = t - (a.left - 1) by omega]
      simp only [Bool.true_and]
      congr 1
      · congr 1; apply propext; omega
      · congr 1
        congr 1
        congr 1; apply propext; omega
    · have h4 : a.left = 1 := by omega
      split
      · rename_i h5
        unfold fire
        rw [h4, h5]
        have : ¬ t + 1 = 1 := by omega
        simp [Alm.zero, this]
      · rename_i h5
        have h6 : 0 < a.cycle := by omega
        unfold fire
        dsimp only
        rw [hs, h4, show t + 1 - 1 = t by omega]
        have e1 : decide (t + 1 = 1) = false := by simp; omega
        have e2 : decide ((1 : Int) < t + 1) = true := by simp; omega
        have e3 : decide (0 < a.cycle) = true := by simpa using h6
        rw [e1, e2, e3]
        simp only [Bool.true_and, Bool.false_or, Bool.and_true]
        rw [Bool.eq_iff_iff]
        simp only [Bool.or_eq_true, Bool.and_eq_true, decide_eq_true_eq]
        constructor
        · rintro (h7 | ⟨h7, h8⟩)
          · rw [h7, Int.emod_self]
          · rwa [Int.sub_emod_right] at h8
        · intro h7
          rcases Int.lt_trichotomy a.cycle t with h8 | h8 | h8
          · exact .inr ⟨h8, by rwa [Int.sub_emod_right]⟩
          · exact .inl h8.symm
          · rw [Int.emod_eq_of_lt (by omega) h8] at h7
            omega

def stepN : Nat → Alm → Alm
  | 0, a => a
  | T + 1, a => stepN T (a.step 1)

theorem ticks_map (T : Nat) (l : List Alm) : ticks T l = l.map (stepN T) := by
  induction T generalizing l with
  | zero => simp [ticks, stepN]
  | succ T ih => rw [ticks, ih]; simp [tickA, stepN]

theorem fire_stepN {a : Alm} (h : a.ok) (T : Nat) : (stepN T a).fires 1 = fire a (T + 1) := by
  induction T generalizing a with
  | zero => exact fire_one h
  | succ T ih =>
    rw [stepN, ih (Alm.ok_step h), fire_step h _ (by omega)]
    congr 1

/-- All that expires in T ticks. -/
def evE (T : Nat) (l : List Alm) : List (Int × Nat) :=
  ((List.range (T * l.length)).filter fun j => fire (l[j % l.length]?.getD Alm.zero) ((j / l.length : Nat) + 1)).map fun j => (((j / l.length : Nat) : Int) + 1, j % l.length)

theorem evs_evE (T : Nat) (l : List Alm) (h : ∀ a ∈ l, a.ok) : evs T l 0 = evE T l := by
  induction T with
  | zero => simp [evs, evE]
  | succ T ih =>
    rw [evs_succ, ih]
    unfold evE
    rw [Nat.succ_mul, List.range_add, List.filter_append, List.map_append]
    congr 1
    rw [List.filter_map, List.map_map]
    unfold fired firedTo
    rw [ticks_map, List.length_map]
    have e : ∀ i, i < l.length → (T * l.length + i) % l.length = i ∧ (T * l.length + i) / l.length = T := by
      intro i hi
      rw [Nat.mul_comm]
      exact ⟨by rw [Nat.mul_add_mod, Nat.mod_eq_of_lt hi], by rw [Nat.mul_add_div (by omega), Nat.div_eq_of_lt hi, Nat.add_zero]⟩
    have e1 : (List.range l.length).filter (fun i => ((l.map (stepN T))[i]?.getD Alm.zero).fires 1) = (List.range l.length).filter ((fun j => fire (l[j % l.length]?.getD Alm.zero) ((j / l.length : Nat) + 1)) ∘ fun x => T * l.length + x) := by
      apply List.filter_congr
      intro i hi
      have hi : i < l.length := by simpa using hi
      obtain ⟨e2, e3⟩ := e i hi
      simp only [Function.comp, e2, e3, List.getElem?_map, List.getElem?_eq_getElem hi, Option.map_some, Option.getD_some]
      exact fire_stepN (h _ (List.getElem_mem hi)) T
    rw [e1]
    apply List.map_congr_left
    intro i hi
    have hi : i < l.length := by simpa using (List.mem_filter.1 hi).1
    obtain ⟨e2, e3⟩ := e i hi
    simp only [Function.comp, e2, e3]
    simp

theorem filter_first (p p' : Nat → Bool) (J : Nat) (h1 : ∀ j, j < J → p j = false) (h2 : p J = true) (h3 : p' J = false) (h4 : ∀ j, j ≠ J → p' j = p j) : ∀ N, J < N → (List.range N).filter p = J :: (List.range N).filter p' := by
  have none : ∀ N, N ≤ J → (List.range N).filter p = [] := by
    intro N hN
    rw [List.filter_eq_nil_iff]
    intro j hj
    have hj : j < N := by simpa using hj
    have := h1 j (by omega)
    simp [this]
  have none' : ∀ N, N ≤ J → (List.range N).filter p' = [] := by
    intro N hN
    rw [List.filter_eq_nil_iff]
    intro j hj
    have hj : j < N := by simpa using hj
    have := h1 j (by omega)
    rw [h4 j (by omega)]
    simp [this]
  intro N hN
  induction N with
  | zero => omega
  | succ N ih =>
    rw [List.range_succ, List.filter_append, List.filter_append]
    by_cases hJ : J = N
    · subst hJ
      rw [none _ (Nat.le_refl _), none' _ (Nat.le_refl _)]
      simp [h2, h3]
    · rw [ih (by omega)]
      have : p' N = p N := h4 N (by omega)
      simp [List.filter_cons, this]

/-- The first of the alarms that expire next; none: -1. -/
def leastTo (l : List Alm) : Nat → Int
  | 0 => -1
  | i + 1 =>
    let k := leastTo l i
    let a := l[i]?.getD Alm.zero
    bif a.set && (decide (k < 0) || decide (a.left < (l[k.toNat]?.getD Alm.zero).left)) then (i : Int) else k

theorem leastTo_spec (l : List Alm) (i : Nat) (hi : i ≤ l.length) :
    (leastTo l i = -1 ∧ ∀ j, j < i → (l[j]?.getD Alm.zero).set = false) ∨
    ∃ k : Nat, leastTo l i = k ∧ k < i ∧ (l[k]?.getD Alm.zero).set = true ∧ (∀ j, j < i → (l[j]?.getD Alm.zero).set = true → (l[k]?.getD Alm.zero).left ≤ (l[j]?.getD Alm.zero).left) ∧ ∀ j, j < k → (l[j]?.getD Alm.zero).set = true → (l[k]?.getD Alm.zero).left < (l[j]?.getD Alm.zero).left := by
  induction i with
  | zero => exact .inl ⟨rfl, fun j hj => by omega⟩
  | succ i ih =>
    rcases ih (by omega) with ⟨h1, h2⟩ | ⟨k, h1, h2, h3, h4, h5⟩
    · cases hs : (l[i]?.getD Alm.zero).set
      · refine .inl ⟨by simp [leastTo, hs, h1], fun j hj => ?_⟩
        by_cases hji : j = i
        · subst hji; exact hs
        · exact h2 j (by omega)
      · refine .inr ⟨i, by simp [leastTo, hs, h1], by omega, hs, fun j hj hjs => ?_, fun j hj hjs => ?_⟩
        · by_cases hji : j = i
          · subst hji; exact Int.le_refl _
          · rw [h2 j (by omega)] at hjs; cases hjs
        · rw [h2 j (by omega)] at hjs; cases hjs
    · cases hs : (l[i]?.getD Alm.zero).set
      · refine .inr ⟨k, by simp [leastTo, hs, h1], by omega, h3, fun j hj hjs => ?_, h5⟩
        by_cases hji : j = i
        · subst hji; rw [hs] at hjs; cases hjs
        · exact h4 j (by omega) hjs
      · by_cases hl : (l[i]?.getD Alm.zero).left < (l[k]?.getD Alm.zero).left
        · refine .inr ⟨i, by simp [leastTo, hs, h1, hl], by omega, hs, fun j hj hjs => ?_, fun j hj hjs => ?_⟩
          · by_cases hji : j = i
            · subst hji; exact Int.le_refl _
            · have := h4 j (by omega) hjs; omega
          · have := h4 j (by omega) hjs; omega
        · refine .inr ⟨k, ?_, by omega, h3, fun j hj hjs => ?_, h5⟩
          · have : ¬ ((k : Int) < 0) := by omega
            simp [leastTo, hs, h1, hl, this]
          · by_cases hji : j = i
            · subst hji; omega
            · exact h4 j (by omega) hjs

/-- An alarm has expired: it waits for its next time. -/
def Alm.again (a : Alm) : Alm := ⟨decide (0 < a.cycle), a.left + a.cycle, a.cycle⟩

theorem fire_again {a : Alm} (hs : a.set = true) (t : Int) : fire a.again t = (fire a t && !decide (t = a.left)) := by
  unfold fire Alm.again
  dsimp only
  rw [hs]
  by_cases h0 : 0 < a.cycle
  · have e3 : decide (0 < a.cycle) = true := by simpa using h0
    rw [e3]
    rw [Bool.eq_iff_iff]
    simp only [Bool.true_and, Bool.or_eq_true, Bool.and_eq_true, decide_eq_true_eq, Bool.not_eq_true', decide_eq_false_iff_not]
    have e : t - (a.left + a.cycle) = t - a.left - a.cycle := by omega
    rw [e, Int.sub_emod_right]
    constructor
    · rintro (h1 | ⟨h1, h2⟩)
      · refine ⟨.inr ⟨by omega, ?_⟩, by omega⟩
        rw [show t - a.left = a.cycle by omega, Int.emod_self]
      · exact ⟨.inr ⟨by omega, h2⟩, by omega⟩
    · rintro ⟨h1 | ⟨h1, h2⟩, h3⟩
      · exact absurd h1 h3
      · rcases Int.lt_trichotomy (a.left + a.cycle) t with h8 | h8 | h8
        · exact .inr ⟨h8, h2⟩
        · exact .inl h8.symm
        · rw [Int.emod_eq_of_lt (by omega) (by omega)] at h2
          omega
  · have e3 : decide (0 < a.cycle) = false := by simpa using h0
    rw [e3]
    cases decide (t = a.left) <;> simp

theorem Alm.ok_again {a : Alm} (h : a.ok) (hs : a.set = true) : a.again.ok :=
  ⟨fun _ => by have := h.on hs; have := h.c0; simp [Alm.again]; omega, h.c0⟩

theorem fire_early {a : Alm} (t : Int) (h : a.set = true → t < a.left) : fire a t = false := by
  unfold fire
  cases hs : a.set
  · rfl
  · have := h hs
    have e1 : decide (t = a.left) = false := by simp; omega
    have e2 : decide (a.left < t) = false := by simp; omega
    simp [e1, e2]

theorem evE_none (T : Nat) (l : List Alm) (h : leastTo l l.length = -1) : evE T l = [] := by
  rcases leastTo_spec l l.length (Nat.le_refl _) with ⟨_, h2⟩ | ⟨k, h1, _⟩
  · unfold evE
    rw [List.map_eq_nil_iff, List.filter_eq_nil_iff]
    intro j hj
    have hj : j < T * l.length := by simpa using hj
    have hn : 0 < l.length := Nat.pos_of_ne_zero (by intro h0; rw [h0] at hj; simp at hj)
    have := h2 (j % l.length) (Nat.mod_lt _ hn)
    simp [fire, this]
  · omega

theorem evE_first (T : Nat) (l : List Alm) (hok : ∀ a ∈ l, a.ok) (k : Nat) (hk : leastTo l l.length = k) (a : Alm) (ha : l[k]? = some a) (hT : a.left ≤ T) : a.set = true ∧ evE T l = (a.left, k) :: evE T (l.set k a.again) := by
  rcases leastTo_spec l l.length (Nat.le_refl _) with ⟨h1, _⟩ | ⟨k', h1, h2, h3, h4, h5⟩
  · omega
  · obtain rfl : k' = k := by omega
    rw [ha] at h3 h4 h5
    simp only [Option.getD_some] at h3 h4 h5
    refine ⟨h3, ?_⟩
    have hak := hok a (List.mem_of_getElem? ha)
    have hl1 := hak.on h3
    obtain ⟨d, hd⟩ : ∃ d : Nat, a.left = d + 1 := ⟨(a.left - 1).toNat, by omega⟩
    have hn : 0 < l.length := by omega
    have hJm : (d * l.length + k') % l.length = k' := by rw [Nat.mul_comm, Nat.mul_add_mod, Nat.mod_eq_of_lt h2]
    have hJd : (d * l.length + k') / l.length = d := by rw [Nat.mul_comm, Nat.mul_add_div hn, Nat.div_eq_of_lt h2, Nat.add_zero]
    have hJ : d * l.length + k' < T * l.length := by
      have : (d + 1) * l.length ≤ T * l.length := Nat.mul_le_mul_right _ (by omega)
      rw [Nat.succ_mul] at this
      omega
    have key := filter_first (fun j => fire (l[j % l.length]?.getD Alm.zero) ((j / l.length : Nat) + 1)) (fun j => fire ((l.set k' a.again)[j % l.length]?.getD Alm.zero) ((j / l.length : Nat) + 1)) (d * l.length + k')
      (by
        intro j hj
        apply fire_early
        intro hs
        have hjm := Nat.mod_lt j hn
        have hdm := Nat.div_add_mod j l.length
        have h6 := h4 _ hjm hs
        by_cases hlt : j / l.length < d
        · omega
        · have hle : j / l.length ≤ d := by
            have : j / l.length < d + 1 := by
              apply Nat.div_lt_of_lt_mul
              rw [Nat.mul_comm, Nat.succ_mul]
              omega
            omega
          have he : j / l.length = d := by omega
          rw [he, Nat.mul_comm] at hdm
          have h7 := h5 (j % l.length) (by omega) hs
          rw [he]
          omega)
      (by
        rw [hJm, hJd, ha, Option.getD_some]
        simp [fire, h3, hd])
      (by
        rw [hJm, hJd, List.getElem?_set_self h2, Option.getD_some, fire_again h3]
        simp [hd])
      (by
        intro j hj
        by_cases hjk : j % l.length = k'
        · rw [hjk, List.getElem?_set_self h2, Option.getD_some, ha, Option.getD_some, fire_again h3]
          have hdm := Nat.div_add_mod j l.length
          have : ¬ ((j / l.length : Nat) : Int) + 1 = a.left := by
            intro h6
            apply hj
            have : j / l.length = d := by omega
            rw [this, hjk, Nat.mul_comm] at hdm
            exact hdm.symm
          rw [show decide (((j / l.length : Nat) : Int) + 1 = a.left) = false by simpa using this, Bool.not_false, Bool.and_true]
        · rw [List.getElem?_set_ne (Ne.symm hjk)])
      (T * l.length) hJ
    unfold evE
    rw [List.length_set]
    rw [key, List.map_cons, hJm, hJd, hd]

/-- The document's Coming: al's times are counted from now. -/
def refGo : Nat → List Alm → Nat → List (Int × Nat) → List (Int × Nat)
  | 0, _, _, acc => acc
  | f + 1, al, m, acc =>
    if acc.length < m then
      if leastTo al al.length < 0 then acc
      else refGo f (al.set (leastTo al al.length).toNat (al[(leastTo al al.length).toNat]?.getD Alm.zero).again) m (acc ++ [((al[(leastTo al al.length).toNat]?.getD Alm.zero).left, (leastTo al al.length).toNat)])
    else acc

theorem evE_mono {S T : Nat} (h : S ≤ T) (l : List Alm) : ∃ r, evE T l = evE S l ++ r := by
  obtain ⟨U, rfl⟩ : ∃ U, T = S + U := ⟨T - S, by omega⟩
  unfold evE
  rw [Nat.add_mul, List.range_add, List.filter_append, List.map_append]
  exact ⟨_, rfl⟩

theorem evE_take {S T n : Nat} (h : S ≤ T) (l : List Alm) (hn : n ≤ (evE S l).length) : (evE T l).take n = (evE S l).take n := by
  obtain ⟨r, e⟩ := evE_mono h l
  rw [e, List.take_append_of_le_length hn]

theorem refGo_evE (m : Nat) : ∀ (f : Nat) (al : List Alm) (acc : List (Int × Nat)), (∀ a ∈ al, a.ok) → m < f + acc.length →
    ∃ T, refGo f al m acc = acc ++ (evE T al).take (m - acc.length) ∧ (m - acc.length ≤ (evE T al).length ∨ ∀ T', T ≤ T' → evE T' al = evE T al) := by
  intro f
  induction f with
  | zero => intro al acc _ hf; exact ⟨0, by rw [show m - acc.length = 0 by omega]; simp [refGo], .inl (by omega)⟩
  | succ f ih =>
    intro al acc hok hf
    rw [refGo]
    split
    · rename_i hlt
      split
      · rename_i hl
        rcases leastTo_spec al al.length (Nat.le_refl _) with ⟨h1, _⟩ | ⟨k, h1, _⟩
        · exact ⟨0, by rw [evE_none _ _ h1]; simp, .inr fun T' _ => by rw [evE_none _ _ h1, evE_none _ _ h1]⟩
        · omega
      · rename_i hl
        rcases leastTo_spec al al.length (Nat.le_refl _) with ⟨h1, _⟩ | ⟨k, h1, h2, h3, _⟩
        · omega
        · rw [h1, Int.toNat_natCast, List.getElem?_eq_getElem h2, Option.getD_some]
          have hak := hok _ (List.getElem_mem h2)
          rw [List.getElem?_eq_getElem h2, Option.getD_some] at h3
          have hok' : ∀ a ∈ al.set k al[k].again, a.ok := by
            intro a ha
            rcases List.mem_or_eq_of_mem_set ha with h5 | rfl
            · exact hok a h5
            · exact Alm.ok_again hak h3
          obtain ⟨T, e1, e2⟩ := ih (al.set k al[k].again) (acc ++ [(al[k].left, k)]) hok' (by simp; omega)
          refine ⟨max T al[k].left.toNat, ?_, ?_⟩
          · obtain ⟨_, h6⟩ := evE_first (max T al[k].left.toNat) al hok k h1 al[k] (List.getElem?_eq_getElem h2) (by omega)
            rw [e1, h6]
            obtain ⟨n, hn⟩ : ∃ n, m - acc.length = n + 1 := ⟨m - acc.length - 1, by omega⟩
            rw [hn, List.take_succ_cons, List.append_assoc, List.length_append, show m - (acc.length + [(al[k].left, k)].length) = n by simp; omega]
            have : (evE (max T al[k].left.toNat) (al.set k al[k].again)).take n = (evE T (al.set k al[k].again)).take n := by
              rcases e2 with e2 | e2
              · exact evE_take (Nat.le_max_left _ _) _ (by simp at e2; omega)
              · rw [e2 _ (Nat.le_max_left _ _)]
            rw [this]
            rfl
          · have h6 := fun (T' : Nat) (hT : al[k].left ≤ T') => (evE_first T' al hok k h1 al[k] (List.getElem?_eq_getElem h2) hT).2
            rcases e2 with e2 | e2
            · left
              rw [h6 _ (by omega), List.length_cons]
              obtain ⟨r, e⟩ := evE_mono (Nat.le_max_left T al[k].left.toNat) (al.set k al[k].again)
              rw [e, List.length_append]
              simp at e2
              omega
            · right
              intro T' hT'
              rw [h6 T' (by omega), h6 _ (by omega), e2 T' (by omega), e2 _ (Nat.le_max_left _ _)]
    · rename_i hlt
      exact ⟨0, by rw [show m - acc.length = 0 by omega]; simp, .inl (by omega)⟩

/-- Both Comings tell the same. -/
theorem refGo_coming (c : Clk) (h : c.wf) (most : Int) : refGo ((min most 65536).toNat + 1) c.al (min most 65536).toNat [] = c.coming most := by
  have hok : ∀ a ∈ c.al, a.ok := fun a ha => ⟨(h.a a ha).on, (h.a a ha).c0⟩
  obtain ⟨T, e1, e2⟩ := refGo_evE (min most 65536).toNat ((min most 65536).toNat + 1) c.al [] hok (by simp)
  obtain ⟨S, e3, e4⟩ := coming_is c h most
  rw [e1, e3, List.nil_append, evs_evE _ _ hok]
  simp only [List.length_nil, Nat.sub_zero] at e2 ⊢
  generalize (min most 65536).toNat = m at *
  have e5 : (evE (max S T) c.al).take m = (evE T c.al).take m := by
    rcases e2 with e2 | e2
    · exact evE_take (Nat.le_max_right _ _) _ e2
    · rw [e2 _ (Nat.le_max_right _ _)]
  have e6 : (evE (max S T) c.al).take m = (evE S c.al).take m := by
    rcases e4 with e4 | e4
    · rw [e3, evs_evE _ _ hok, List.length_take] at e4
      exact evE_take (Nat.le_max_left _ _) _ (by omega)
    · obtain ⟨U, hU⟩ : ∃ U, max S T = S + U := ⟨max S T - S, by omega⟩
      rw [hU, ← evs_evE _ _ hok, ← evs_evE _ _ hok, evs_add]
      have hu : ∀ U (l : List Alm) ps, (∀ a ∈ l, a.set = false) → evs U l ps = [] := by
        intro U
        induction U with
        | zero => intro l ps _; rfl
        | succ U ih =>
          intro l ps hl
          rw [evs, fired_nil (fun a ha => by simp [Alm.fires, hl a ha]), ih _ _ (by
            intro a ha
            obtain ⟨b, hb, rfl⟩ := List.mem_map.1 ha
            simp [Alm.step, hl b hb])]
          rfl
      rw [hu _ _ _ e4, List.append_nil]
  rw [← e5, e6]

end Go.Proofs.Ytopgfhcgfpceaaa
