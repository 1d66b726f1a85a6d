/- Queues as plain data: rows by falling priority, each with its ids; nothing of the program in sight. -/
import Derived.Test.YtopgfhcgfpceaaaRngE
namespace Go.Proofs.Ytopgfhcgfpceaaa

/-- A row of a queue: its priority, its capacity, the ids, the most that stood there at one time. -/
structure QR where
  prio : Nat
  cap : Nat
  l : List Int
  high : Nat

structure QR.wf (r : QR) : Prop where
  p : r.prio ≤ 63
  c1 : 1 ≤ r.cap
  c2 : r.cap ≤ 65536
  h : r.l.length ≤ r.high
  h2 : r.high ≤ r.cap

/-- Rows by falling priority. -/
structure QWf (qs : List QR) : Prop where
  r : ∀ x ∈ qs, x.wf
  f : qs.Pairwise fun a b => b.prio < a.prio

def qfind (qs : List QR) (p : Int) : Option Nat := qs.findIdx? fun r => (r.prio : Int) == p

theorem qfind_some {qs : List QR} {p : Int} {i : Nat} (h : qfind qs p = some i) : ∃ r, qs[i]? = some r ∧ (r.prio : Int) = p := by
  unfold qfind at h
  obtain ⟨hl, h1, _⟩ := List.findIdx?_eq_some_iff_getElem.1 h
  exact ⟨qs[i], List.getElem?_eq_getElem hl, by simpa using h1⟩

theorem qfind_none {qs : List QR} {p : Int} (h : qfind qs p = none) : ∀ r ∈ qs, (r.prio : Int) ≠ p := by
  unfold qfind at h
  intro r hr
  have := List.findIdx?_eq_none_iff.1 h r hr
  simpa using this

theorem QWf.lt {qs : List QR} (h : QWf qs) {i j : Nat} {a b : QR} (hi : qs[i]? = some a) (hj : qs[j]? = some b) (hij : i < j) : b.prio < a.prio := by
  have hil := (List.getElem?_eq_some_iff.1 hi)
  have hjl := (List.getElem?_eq_some_iff.1 hj)
  obtain ⟨hi1, rfl⟩ := hil
  obtain ⟨hj1, rfl⟩ := hjl
  exact List.pairwise_iff_getElem.1 h.f i j hi1 hj1 hij

theorem QWf.inj {qs : List QR} (h : QWf qs) {i j : Nat} {a b : QR} (hi : qs[i]? = some a) (hj : qs[j]? = some b) (e : a.prio = b.prio) : i = j := by
  rcases Nat.lt_trichotomy i j with h1 | h1 | h1
  · have := h.lt hi hj h1; omega
  · exact h1
  · have := h.lt hj hi h1; omega

theorem QWf.find {qs : List QR} (h : QWf qs) {i : Nat} {r : QR} (hi : qs[i]? = some r) : qfind qs r.prio = some i := by
  cases hf : qfind qs r.prio with
  | none => exact absurd rfl (qfind_none hf r (List.mem_of_getElem? hi))
  | some j =>
    obtain ⟨r', h1, h2⟩ := qfind_some hf
    rw [h.inj hi h1 (by omega)]

theorem QWf.row {qs : List QR} (h : QWf qs) {i : Nat} {r : QR} (hi : qs[i]? = some r) : r.wf := h.r r (List.mem_of_getElem? hi)

theorem QWf.len {qs : List QR} (h : QWf qs) : qs.length ≤ 64 := by
  have key : ∀ i r, qs[i]? = some r → i + r.prio ≤ 63 := by
    intro i
    induction i with
    | zero => intro r hr; have := (h.row hr).p; omega
    | succ i ih =>
      intro r hr
      have hl := (List.getElem?_eq_some_iff.1 hr).1
      have h1 : qs[i]? = some qs[i] := List.getElem?_eq_getElem (by omega)
      have := ih _ h1
      have := h.lt h1 hr (by omega)
      omega
  rcases Nat.eq_zero_or_pos qs.length with h0 | h0
  · omega
  · have h1 : qs[qs.length - 1]? = some qs[qs.length - 1] := List.getElem?_eq_getElem (by omega)
    have := key _ _ h1
    omega

/-- Another row in a row's place. -/
theorem QWf.set {qs : List QR} (h : QWf qs) {i : Nat} {r r' : QR} (hi : qs[i]? = some r) (hp : r'.prio = r.prio) (hr : r'.wf) : QWf (qs.set i r') := by
  obtain ⟨hl, e⟩ := List.getElem?_eq_some_iff.1 hi
  refine ⟨fun x hx => ?_, ?_⟩
  · rcases List.mem_or_eq_of_mem_set hx with h1 | h1
    · exact h.r x h1
    · rw [h1]; exact hr
  · rw [List.pairwise_iff_getElem]
    intro a b ha hb hab
    have := List.pairwise_iff_getElem.1 h.f a b (by simpa using ha) (by simpa using hb) hab
    have e1 : ∀ k (hk : k < (qs.set i r').length), (qs.set i r')[k].prio = (qs[k]'(by simpa using hk)).prio := by
      intro k hk
      rw [List.getElem_set]
      split
      · rename_i e2; subst e2; rw [hp, ← e]
      · rfl
    rw [e1 a ha, e1 b hb]
    exact this

theorem qfind_set {qs : List QR} {i : Nat} {r r' : QR} (hi : qs[i]? = some r) (hp : r'.prio = r.prio) (p : Int) : qfind (qs.set i r') p = qfind qs p := by
  have key : ∀ (l : List QR) (i : Nat), l[i]? = some r → (l.set i r').findIdx? (fun r => (r.prio : Int) == p) = l.findIdx? (fun r => (r.prio : Int) == p) := by
    intro l
    induction l with
    | nil => intro i hi; simp at hi
    | cons a l ih =>
      intro i hi
      cases i with
      | zero => simp at hi; subst hi; rw [List.set_cons_zero, List.findIdx?_cons, List.findIdx?_cons, hp]
      | succ i => rw [List.set_cons_succ, List.findIdx?_cons, List.findIdx?_cons, ih i (by simpa using hi)]
  exact key qs i hi

/-- Which rows are not empty, as bits. -/
def qbits : List QR → Nat
  | [] => 0
  | r :: rs => if r.l = [] then qbits rs else 2 ^ r.prio ||| qbits rs

theorem qbits_bit (qs : List QR) (k : Nat) : (qbits qs).testBit k = qs.any fun r => r.prio == k && !r.l.isEmpty := by
  induction qs with
  | nil => simp [qbits]
  | cons r rs ih =>
    unfold qbits
    split
    · rename_i h; rw [ih, List.any_cons, h]; simp
    · rename_i h
      rw [Nat.testBit_or, ih, List.any_cons, Nat.testBit_two_pow]
      have : r.l.isEmpty = false := by cases hl : r.l with | nil => exact absurd hl h | cons => rfl
      rw [this]
      congr 1
      simp only [Bool.not_false, Bool.and_true]
      rw [Bool.eq_iff_iff]; simp

theorem QWf.bit {qs : List QR} (h : QWf qs) {i : Nat} {r : QR} (hi : qs[i]? = some r) : (qbits qs).testBit r.prio = !r.l.isEmpty := by
  rw [qbits_bit, Bool.eq_iff_iff, List.any_eq_true]
  constructor
  · rintro ⟨x, hx, h1⟩
    simp only [Bool.and_eq_true, beq_iff_eq] at h1
    obtain ⟨j, hj⟩ := List.mem_iff_getElem?.1 hx
    have := h.inj hi hj h1.1.symm
    subst this
    rw [hi] at hj
    injection hj with hj
    subst hj
    exact h1.2
  · intro h1
    exact ⟨r, List.mem_of_getElem? hi, by simpa using h1⟩

theorem QWf.nobit {qs : List QR} {k : Nat} (h : ∀ r ∈ qs, r.prio ≠ k) : (qbits qs).testBit k = false := by
  rw [qbits_bit, List.any_eq_false]
  intro r hr
  simp [h r hr]

theorem qbits_lt {qs : List QR} (h : ∀ x ∈ qs, x.wf) : qbits qs < 2 ^ 64 := by
  induction qs with
  | nil => simp [qbits]
  | cons r rs ih =>
    unfold qbits
    have h1 := ih fun x hx => h x (List.mem_cons_of_mem _ hx)
    split
    · exact h1
    · exact Nat.or_lt_two_pow (Nat.pow_lt_pow_right (by omega) (by have := (h r List.mem_cons_self).p; omega)) h1

/-- A thing has been put into row i. -/
theorem QWf.bits_put {qs : List QR} (h : QWf qs) {i : Nat} {r r' : QR} (hi : qs[i]? = some r) (hp : r'.prio = r.prio) (hr : r'.wf) (hn : r'.l ≠ []) : qbits (qs.set i r') = qbits qs ||| 2 ^ r.prio := by
  have hs := h.set hi hp hr
  have hl := (List.getElem?_eq_some_iff.1 hi).1
  apply Nat.eq_of_testBit_eq
  intro k
  rw [Nat.testBit_or, Nat.testBit_two_pow, qbits_bit, qbits_bit, Bool.eq_iff_iff]
  simp only [List.any_eq_true, Bool.or_eq_true, decide_eq_true_eq, Bool.and_eq_true, beq_iff_eq, Bool.not_eq_true']
  constructor
  · rintro ⟨x, hx, h1, h2⟩
    rcases List.mem_or_eq_of_mem_set hx with h3 | h3
    · exact .inl ⟨x, h3, h1, h2⟩
    · subst h3; exact .inr (by omega)
  · rintro (⟨x, hx, h1, h2⟩ | h1)
    · by_cases e : r.prio = k
      · exact ⟨r', List.mem_iff_getElem?.2 ⟨i, by rw [List.getElem?_set_self hl]⟩, by omega, by simpa using hn⟩
      · obtain ⟨j, hj⟩ := List.mem_iff_getElem?.1 hx
        have : i ≠ j := by rintro rfl; rw [hi] at hj; injection hj with hj; subst hj; exact e h1
        exact ⟨x, List.mem_iff_getElem?.2 ⟨j, by rw [List.getElem?_set_ne this]; exact hj⟩, h1, h2⟩
    · exact ⟨r', List.mem_iff_getElem?.2 ⟨i, by rw [List.getElem?_set_self hl]⟩, by omega, by simpa using hn⟩

/-- A thing has been taken out of row i, others are left. -/
theorem qbits_same {qs : List QR} {i : Nat} {r r' : QR} (hi : qs[i]? = some r) (hp : r'.prio = r.prio) (he : r'.l.isEmpty = r.l.isEmpty) : qbits (qs.set i r') = qbits qs := by
  have key : ∀ (l : List QR) (i : Nat), l[i]? = some r → qbits (l.set i r') = qbits l := by
    intro l
    induction l with
    | nil => intro i hi; simp at hi
    | cons a l ih =>
      intro i hi
      cases i with
      | zero =>
        simp at hi; subst hi
        rw [List.set_cons_zero]
        unfold qbits
        rw [hp]
        have : (r'.l = []) = (a.l = []) := by rw [← List.isEmpty_iff, ← List.isEmpty_iff, he]
        simp only [this]
      | succ i => rw [List.set_cons_succ]; unfold qbits; rw [ih i (by simpa using hi)]
  exact key qs i hi

/-- Row i has become empty. -/
theorem QWf.bits_out {qs : List QR} (h : QWf qs) {i : Nat} {r r' : QR} (hi : qs[i]? = some r) (hn : r'.l = []) (k : Nat) : (qbits (qs.set i r')).testBit k = ((qbits qs).testBit k && !decide (r.prio = k)) := by
  have hl := (List.getElem?_eq_some_iff.1 hi).1
  rw [qbits_bit, qbits_bit, Bool.eq_iff_iff]
  simp only [List.any_eq_true, Bool.and_eq_true, beq_iff_eq, Bool.not_eq_true', decide_eq_false_iff_not]
  constructor
  · rintro ⟨x, hx, h1, h2⟩
    obtain ⟨j, hj⟩ := List.mem_iff_getElem?.1 hx
    by_cases e : i = j
    · subst e; rw [List.getElem?_set_self hl] at hj; injection hj with hj; subst hj; rw [hn] at h2; simp at h2
    · rw [List.getElem?_set_ne e] at hj
      refine ⟨⟨x, List.mem_of_getElem? hj, h1, h2⟩, fun e2 => e ?_⟩
      exact h.inj hi hj (by omega)
  · rintro ⟨⟨x, hx, h1, h2⟩, h3⟩
    obtain ⟨j, hj⟩ := List.mem_iff_getElem?.1 hx
    have : i ≠ j := by rintro rfl; rw [hi] at hj; injection hj with hj; subst hj; exact h3 h1
    exact ⟨x, List.mem_iff_getElem?.2 ⟨j, by rw [List.getElem?_set_ne this]; exact hj⟩, h1, h2⟩

/-- The first row that is not empty. -/
def qtop (qs : List QR) : Option Nat := qs.findIdx? fun r => !r.l.isEmpty

theorem qtop_some {qs : List QR} {i : Nat} (h : qtop qs = some i) : ∃ r x xs, qs[i]? = some r ∧ r.l = x :: xs ∧ ∀ j s, j < i → qs[j]? = some s → s.l = [] := by
  unfold qtop at h
  obtain ⟨hl, h1, h2⟩ := List.findIdx?_eq_some_iff_getElem.1 h
  have hc : ∃ x xs, qs[i].l = x :: xs := by
    cases hq : qs[i].l with
    | nil => rw [hq] at h1; simp at h1
    | cons x xs => exact ⟨x, xs, rfl⟩
  obtain ⟨x, xs, hx⟩ := hc
  refine ⟨qs[i], x, xs, List.getElem?_eq_getElem hl, hx, fun j s hj hs => ?_⟩
  obtain ⟨hjl, rfl⟩ := List.getElem?_eq_some_iff.1 hs
  simpa using h2 j hj

theorem qtop_none {qs : List QR} (h : qtop qs = none) : ∀ r ∈ qs, r.l = [] := by
  intro r hr
  have := List.findIdx?_eq_none_iff.1 h r hr
  simpa using this

theorem qbits_zero {qs : List QR} (h : qtop qs = none) : qbits qs = 0 := by
  have h1 := qtop_none h
  clear h
  induction qs with
  | nil => rfl
  | cons r rs ih =>
    unfold qbits
    rw [if_pos (h1 r List.mem_cons_self)]
    exact ih fun x hx => h1 x (List.mem_cons_of_mem _ hx)

/-- Its priority is the greatest bit. -/
theorem QWf.log {qs : List QR} (h : QWf qs) {i : Nat} {r : QR} (ht : qtop qs = some i) (hi : qs[i]? = some r) : qbits qs ≠ 0 ∧ (qbits qs).log2 = r.prio := by
  obtain ⟨r', x, xs, h1, h2, h3⟩ := qtop_some ht
  rw [hi] at h1
  injection h1 with h1
  subst h1
  have hb := h.bit hi
  rw [h2] at hb
  have hne : qbits qs ≠ 0 := by intro e; rw [e] at hb; simp at hb
  refine ⟨hne, ?_⟩
  have hge : 2 ^ r.prio ≤ qbits qs := Nat.ge_two_pow_of_testBit (by simpa using hb)
  have hlt : qbits qs < 2 ^ (r.prio + 1) := by
    apply Nat.lt_pow_two_of_testBit
    intro k hk
    rw [qbits_bit, List.any_eq_false]
    intro s hs
    obtain ⟨j, hj⟩ := List.mem_iff_getElem?.1 hs
    simp only [Bool.and_eq_true, beq_iff_eq, Bool.not_eq_true', not_and]
    intro e
    rcases Nat.lt_trichotomy j i with h4 | h4 | h4
    · rw [h3 j s h4 hj]; simp
    · subst h4; rw [hi] at hj; injection hj with hj; subst hj; omega
    · have := h.lt hi hj h4; omega
  exact (Nat.log2_eq_iff hne).2 ⟨hge, hlt⟩

/-- An id joins a row. -/
def QR.put (hd : Bool) (r : QR) (id : Int) : QR := { r with l := if hd then id :: r.l else r.l ++ [id], high := max r.high (r.l.length + 1) }

theorem QR.put_wf {hd : Bool} {r : QR} {id : Int} (h : r.wf) (hl : r.l.length < r.cap) : (r.put hd id).wf := by
  have h1 := h.h
  have h2 := h.h2
  have e : (r.put hd id).l.length = r.l.length + 1 := by unfold QR.put; cases hd <;> simp
  exact ⟨h.p, h.c1, h.c2, by rw [e]; unfold QR.put; dsimp only; omega, by unfold QR.put; dsimp only; omega⟩

theorem QR.put_ne {hd : Bool} {r : QR} {id : Int} : (r.put hd id).l ≠ [] := by unfold QR.put; cases hd <;> simp

def qput (hd : Bool) (qs : List QR) (p id : Int) : Int × List QR :=
  match qfind qs p with
  | none => (130, qs)
  | some i => match qs[i]? with
    | none => (130, qs)
    | some r => if r.cap ≤ r.l.length then (131, qs) else (0, qs.set i (r.put hd id))

theorem qput_none {hd : Bool} {qs : List QR} {p id : Int} (h : qfind qs p = none) : qput hd qs p id = (130, qs) := by simp [qput, h]
theorem qput_full {hd : Bool} {qs : List QR} {p id : Int} {i : Nat} {r : QR} (h : qfind qs p = some i) (hi : qs[i]? = some r) (hf : r.cap ≤ r.l.length) : qput hd qs p id = (131, qs) := by simp [qput, h, hi, hf]
theorem qput_some {hd : Bool} {qs : List QR} {p id : Int} {i : Nat} {r : QR} (h : qfind qs p = some i) (hi : qs[i]? = some r) (hf : r.l.length < r.cap) : qput hd qs p id = (0, qs.set i (r.put hd id)) := by simp [qput, h, hi]; omega

theorem qput_wf {hd : Bool} {qs : List QR} {p id : Int} (h : QWf qs) : QWf (qput hd qs p id).2 := by
  cases hf : qfind qs p with
  | none => rw [qput_none hf]; exact h
  | some i =>
    obtain ⟨r, hi, hp⟩ := qfind_some hf
    by_cases hc : r.cap ≤ r.l.length
    · rw [qput_full hf hi hc]; exact h
    · rw [qput_some hf hi (by omega)]; exact h.set hi rfl (QR.put_wf (h.row hi) (by omega))

/-- A row without its first id. -/
def QR.rest (r : QR) : QR := { r with l := r.l.tail }

theorem QR.rest_wf {r : QR} (h : r.wf) : r.rest.wf := by
  have h1 := h.h
  exact ⟨h.p, h.c1, h.c2, by unfold QR.rest; simp; omega, h.h2⟩

/-- Priority, id, error; the queue behind. -/
def qtake (qs : List QR) : (Int × Int × Int) × List QR :=
  match qtop qs with
  | none => ((0, 0, 132), qs)
  | some i => match qs[i]? with
    | none => ((0, 0, 132), qs)
    | some r => ((r.prio, r.l.headD 0, 0), qs.set i r.rest)

theorem qtake_none {qs : List QR} (h : qtop qs = none) : qtake qs = ((0, 0, 132), qs) := by simp [qtake, h]
theorem qtake_some {qs : List QR} {i : Nat} {r : QR} (h : qtop qs = some i) (hi : qs[i]? = some r) : qtake qs = (((r.prio : Int), r.l.headD 0, 0), qs.set i r.rest) := by simp [qtake, h, hi]

theorem qtake_wf {qs : List QR} (h : QWf qs) : QWf (qtake qs).2 := by
  cases hf : qtop qs with
  | none => rw [qtake_none hf]; exact h
  | some i =>
    obtain ⟨r, _, _, hi, _⟩ := qtop_some hf
    rw [qtake_some hf hi]
    exact h.set hi rfl (QR.rest_wf (h.row hi))

/-- All ids, with their priorities. -/
def qall (qs : List QR) : List (Int × Int) := qs.flatMap fun r => r.l.map fun x => ((r.prio : Int), x)

theorem qall_none {qs : List QR} (h : qtop qs = none) : qall qs = [] := by
  unfold qall
  rw [List.flatMap_eq_nil_iff]
  intro r hr
  rw [qtop_none h r hr]
  rfl

theorem qall_take {qs : List QR} {i : Nat} {r : QR} (h : qtop qs = some i) (hi : qs[i]? = some r) : qall qs = ((r.prio : Int), r.l.headD 0) :: qall (qs.set i r.rest) := by
  obtain ⟨r', x, xs, h1, h2, h3⟩ := qtop_some h
  rw [hi] at h1
  injection h1 with h1
  subst h1
  clear h
  induction qs generalizing i with
  | nil => simp at hi
  | cons a qs ih =>
    cases i with
    | zero =>
      simp at hi
      subst hi
      simp [qall, h2, QR.rest]
    | succ i =>
      have ha : a.l = [] := h3 0 a (by omega) rfl
      have := ih (by simpa using hi) fun j s hj hs => h3 (j + 1) s (by omega) (by simpa using hs)
      unfold qall at this ⊢
      rw [List.set_cons_succ, List.flatMap_cons, List.flatMap_cons, ha, this]
      rfl

theorem qall_len (qs : List QR) (h : ∀ x ∈ qs, x.wf) : (qall qs).length ≤ qs.length * 65536 := by
  induction qs with
  | nil => simp [qall]
  | cons r qs ih =>
    have h1 := ih fun x hx => h x (List.mem_cons_of_mem _ hx)
    have h2 := h r List.mem_cons_self
    have := h2.h; have := h2.h2; have := h2.c2
    unfold qall at h1 ⊢
    rw [List.flatMap_cons, List.length_append, List.length_map, List.length_cons, Nat.add_mul]
    omega

def qring (qs : List QR) (p : Int) : List Int := match qfind qs p with
  | none => []
  | some i => match qs[i]? with
    | none => []
    | some r => r.l

def qmost (qs : List QR) (p : Int) : Nat := match qfind qs p with
  | none => 0
  | some i => match qs[i]? with
    | none => 0
    | some r => r.high

def qclear (qs : List QR) : List QR := qs.map fun r => { r with l := [] }

theorem qclear_wf {qs : List QR} (h : QWf qs) : QWf (qclear qs) := by
  refine ⟨fun x hx => ?_, ?_⟩
  · obtain ⟨r, hr, rfl⟩ := List.mem_map.1 hx
    have h1 := h.r r hr
    exact ⟨h1.p, h1.c1, h1.c2, by simp, h1.h2⟩
  · unfold qclear
    rw [List.pairwise_map]
    exact h.f

theorem qclear_bits (qs : List QR) : qbits (qclear qs) = 0 := by
  unfold qclear
  induction qs with
  | nil => rfl
  | cons r qs ih => rw [List.map_cons]; unfold qbits; rw [if_pos rfl, ih]

theorem qclear_find (qs : List QR) (p : Int) : qfind (qclear qs) p = qfind qs p := by
  unfold qclear qfind
  rw [List.findIdx?_map]
  rfl

end Go.Proofs.Ytopgfhcgfpceaaa
