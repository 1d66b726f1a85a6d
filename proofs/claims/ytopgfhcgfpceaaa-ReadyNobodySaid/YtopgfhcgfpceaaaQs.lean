/- Queues as plain data: sums over the priorities; what Clear leaves, priority by priority. -/
import Derived.Test.YtopgfhcgfpceaaaQf
namespace Go.Proofs.Ytopgfhcgfpceaaa

def sumTo (f : Nat → Nat) : Nat → Nat
  | 0 => 0
  | k + 1 => sumTo f k + f k

theorem sumTo_congr {f g : Nat → Nat} {n : Nat} (h : ∀ i, i < n → f i = g i) : sumTo f n = sumTo g n := by
  induction n with
  | zero => rfl
  | succ n ih => unfold sumTo; rw [ih fun i hi => h i (by omega), h n (by omega)]

theorem sumTo_zero (n : Nat) : sumTo (fun _ => 0) n = 0 := by
  induction n with
  | zero => rfl
  | succ n ih => unfold sumTo; rw [ih]

theorem sumTo_le {f : Nat → Nat} {b n : Nat} (h : ∀ i, i < n → f i ≤ b) : sumTo f n ≤ n * b := by
  induction n with
  | zero => simp [sumTo]
  | succ n ih =>
    have h1 := ih fun i hi => h i (by omega)
    have h2 := h n (by omega)
    unfold sumTo
    rw [Nat.add_mul]
    omega

theorem sumTo_if (f : Nat → Nat) (c a n : Nat) (h : f c = 0) : sumTo (fun p => if p = c then a else f p) n = sumTo f n + if c < n then a else 0 := by
  induction n with
  | zero => rfl
  | succ n ih =>
    unfold sumTo
    rw [ih]
    by_cases h1 : n = c
    · subst h1
      simp
      omega
    · by_cases h2 : c < n
      · rw [if_pos h2, if_neg h1, if_pos (by omega)]; omega
      · rw [if_neg h2, if_neg h1, if_neg (by omega)]; omega

theorem qring_cons (r : QR) (qs : List QR) (p : Int) : qring (r :: qs) p = if (r.prio : Int) = p then r.l else qring qs p := by
  unfold qring qfind
  rw [List.findIdx?_cons]
  by_cases h : (r.prio : Int) = p
  · simp [h]
  · have : ((r.prio : Int) == p) = false := by simpa using h
    rw [this]
    simp only [h, if_false, Bool.false_eq_true]
    cases List.findIdx? (fun r => (r.prio : Int) == p) qs with
    | none => rfl
    | some i => simp

theorem qring_none {qs : List QR} {p : Int} (h : ∀ r ∈ qs, (r.prio : Int) ≠ p) : qring qs p = [] := by
  induction qs with
  | nil => rfl
  | cons r qs ih =>
    rw [qring_cons, if_neg (h r List.mem_cons_self), ih fun x hx => h x (List.mem_cons_of_mem _ hx)]

/-- How many ids there are. -/
def qlen (qs : List QR) : Nat := (qall qs).length

theorem qlen_sum {qs : List QR} (h : QWf qs) : sumTo (fun p => (qring qs p).length) 64 = qlen qs := by
  unfold qlen
  induction qs with
  | nil =>
    show sumTo (fun _ => 0) 64 = 0
    exact sumTo_zero 64
  | cons r qs ih =>
    have hr := h.r r List.mem_cons_self
    have hf := h.f
    rw [List.pairwise_cons] at hf
    have h' : QWf qs := ⟨fun x hx => h.r x (List.mem_cons_of_mem _ hx), hf.2⟩
    have h0 : (qring qs r.prio).length = 0 := by
      rw [qring_none fun x hx => by have := hf.1 x hx; omega]
      rfl
    have e : sumTo (fun p => (qring (r :: qs) p).length) 64 = sumTo (fun p => if p = r.prio then r.l.length else (qring qs p).length) 64 := by
      apply sumTo_congr
      intro p _
      rw [qring_cons]
      by_cases h1 : p = r.prio
      · subst h1; simp
      · rw [if_neg (by omega), if_neg h1]
    rw [e, sumTo_if _ _ _ _ h0, ih h', if_pos (by have := hr.p; omega)]
    unfold qall
    rw [List.flatMap_cons, List.length_append, List.length_map]
    omega

theorem qring_len {qs : List QR} (h : QWf qs) (p : Int) : (qring qs p).length ≤ 65536 := by
  unfold qring
  cases hf : qfind qs p with
  | none => simp
  | some i =>
    obtain ⟨r, h1, _⟩ := qfind_some hf
    have h2 := h.row h1
    have := h2.h; have := h2.h2; have := h2.c2
    simp only [h1]
    omega

/-- Emptied, below a priority. -/
def qclearTo (qs : List QR) (k : Nat) : List QR := qs.map fun r => if r.prio < k then { r with l := [] } else r

theorem qclearTo_zero (qs : List QR) : qclearTo qs 0 = qs := by
  unfold qclearTo
  simp

theorem qclearTo_all {qs : List QR} (h : QWf qs) : qclearTo qs 64 = qclear qs := by
  unfold qclearTo qclear
  apply List.map_congr_left
  intro r hr
  rw [if_pos (by have := (h.r r hr).p; omega)]

theorem qclearTo_get (qs : List QR) (k i : Nat) : (qclearTo qs k)[i]? = (qs[i]?).map fun r => if r.prio < k then { r with l := [] } else r := by
  unfold qclearTo
  rw [List.getElem?_map]

theorem qclearTo_wf {qs : List QR} (h : QWf qs) (k : Nat) : QWf (qclearTo qs k) := by
  refine ⟨fun x hx => ?_, ?_⟩
  · obtain ⟨r, hr, rfl⟩ := List.mem_map.1 hx
    have h1 := h.r r hr
    split
    · exact ⟨h1.p, h1.c1, h1.c2, by simp, h1.h2⟩
    · exact h1
  · unfold qclearTo
    rw [List.pairwise_map]
    refine h.f.imp ?_
    intro a b hab
    split <;> split <;> exact hab

theorem qclearTo_find (qs : List QR) (k : Nat) (p : Int) : qfind (qclearTo qs k) p = qfind qs p := by
  unfold qclearTo qfind
  rw [List.findIdx?_map]
  congr 1
  funext r
  simp only [Function.comp]
  split <;> rfl

/-- The next priority: none, or a row of it. -/
theorem qclearTo_none {qs : List QR} {k : Nat} (h : qfind qs k = none) : qclearTo qs (k + 1) = qclearTo qs k := by
  unfold qclearTo
  apply List.map_congr_left
  intro r hr
  have := qfind_none h r hr
  by_cases h1 : r.prio < k
  · rw [if_pos h1, if_pos (by omega)]
  · rw [if_neg h1, if_neg (by omega)]

theorem qclearTo_some {qs : List QR} (hw : QWf qs) {k i : Nat} {r : QR} (hi : qs[i]? = some r) (hk : r.prio = k) : (qclearTo qs k)[i]? = some r ∧ qclearTo qs (k + 1) = (qclearTo qs k).set i { r with l := [] } := by
  refine ⟨by rw [qclearTo_get, hi]; simp [hk], ?_⟩
  apply List.ext_getElem?
  intro j
  have hl := (List.getElem?_eq_some_iff.1 hi).1
  by_cases e : i = j
  · subst e
    rw [List.getElem?_set_self (by unfold qclearTo; simpa using hl), qclearTo_get, hi]
    simp [hk]
  · rw [List.getElem?_set_ne e, qclearTo_get, qclearTo_get]
    cases hj : qs[j]? with
    | none => rfl
    | some s =>
      have : s.prio ≠ k := fun e2 => e (hw.inj hi hj (by omega))
      simp only [Option.map_some]
      by_cases h1 : s.prio < k
      · rw [if_pos h1, if_pos (by omega)]
      · rw [if_neg h1, if_neg (by omega)]

end Go.Proofs.Ytopgfhcgfpceaaa
