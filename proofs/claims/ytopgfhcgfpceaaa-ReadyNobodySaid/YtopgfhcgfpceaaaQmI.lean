/- The walk of package ready: New. -/
import Derived.Test.YtopgfhcgfpceaaaQmH
namespace Go.Proofs.Ytopgfhcgfpceaaa
open Go.RowKit

variable {m : Bool}

/-- A row of rings as it comes in: priority, capacity. -/
def rrEnc (x : Int × Int) : List Value := [.int .i64 x.1, .int .i64 x.2]
theorem rrEnc_length (x : Int × Int) : (rrEnc x).length = 2 := rfl

def toQR (x : Int × Int) : QR := ⟨x.1.toNat, x.2.toNat, [], 0⟩

/-- May row i be? -/
def rowOk (rows : List (Int × Int)) (i : Nat) (x : Int × Int) : Prop := 0 ≤ x.1 ∧ x.1 ≤ 63 ∧ (∀ y, rows[i - 1]? = some y → 0 < i → x.1 < y.1) ∧ 1 ≤ x.2 ∧ x.2 ≤ 65536

/-- All rows ahead of k may be. -/
def rowsOk (rows : List (Int × Int)) (k : Nat) : Prop := ∀ i x, i < k → rows[i]? = some x → rowOk rows i x

theorem rowsOk_succ {rows : List (Int × Int)} {k : Nat} {x : Int × Int} (h : rowsOk rows k) (hx : rows[k]? = some x) (ho : rowOk rows k x) : rowsOk rows (k + 1) := by
  intro i y hi hy
  by_cases e : i = k
  · subst e; rw [hx] at hy; injection hy with hy; subst hy; exact ho
  · exact h i y (by omega) hy

theorem rowsOk_desc {rows : List (Int × Int)} {k : Nat} (h : rowsOk rows k) {i j : Nat} {x y : Int × Int} (hi : rows[i]? = some x) (hj : rows[j]? = some y) (hij : i < j) (hk : j < k) : y.1 < x.1 := by
  induction j generalizing y with
  | zero => omega
  | succ j ih =>
    have hl := (List.getElem?_eq_some_iff.1 hj).1
    have hz : rows[j]? = some rows[j] := List.getElem?_eq_getElem (by omega)
    have h1 := (h (j + 1) y hk hj).2.2.1 _ hz (by omega)
    by_cases e : i = j
    · subst e; rw [hi] at hz; injection hz with hz; rw [← hz] at h1; exact h1
    · have := ih hz (by omega) (by omega)
      omega

theorem toQR_wf {rows : List (Int × Int)} {i : Nat} {x : Int × Int} (h : rowOk rows i x) : (toQR x).wf := by
  obtain ⟨h1, h2, _, h4, h5⟩ := h
  exact ⟨by show x.1.toNat ≤ 63; omega, by show 1 ≤ x.2.toNat; omega, by show x.2.toNat ≤ 65536; omega, by simp [toQR], by simp [toQR]⟩

/-- The rows ahead of k, as a queue. -/
def qof (rows : List (Int × Int)) (k : Nat) : List QR := (rows.take k).map toQR

theorem qof_succ {rows : List (Int × Int)} {k : Nat} {x : Int × Int} (hx : rows[k]? = some x) : qof rows (k + 1) = qof rows k ++ [toQR x] := by
  obtain ⟨hl, rfl⟩ := List.getElem?_eq_some_iff.1 hx
  unfold qof
  rw [List.take_succ_eq_append_getElem hl, List.map_append]
  rfl

theorem qof_get {rows : List (Int × Int)} {k i : Nat} {r : QR} (h : (qof rows k)[i]? = some r) : i < k ∧ ∃ x, rows[i]? = some x ∧ r = toQR x := by
  unfold qof at h
  rw [List.getElem?_map, List.getElem?_take] at h
  split at h
  · cases hx : rows[i]? with
    | none => rw [hx] at h; simp at h
    | some x => rw [hx] at h; simp at h; exact ⟨by assumption, x, rfl, h.symm⟩
  · simp at h

theorem qof_wf {rows : List (Int × Int)} {k : Nat} (h : rowsOk rows k) : QWf (qof rows k) := by
  refine ⟨fun r hr => ?_, List.pairwise_iff_getElem.2 fun i j hi hj hij => ?_⟩
  · obtain ⟨i, hi⟩ := List.mem_iff_getElem?.1 hr
    obtain ⟨hk, x, hx, rfl⟩ := qof_get hi
    exact toQR_wf (h i x hk hx)
  · obtain ⟨hki, x, hx, ex⟩ := qof_get (List.getElem?_eq_getElem hi)
    obtain ⟨hkj, y, hy, ey⟩ := qof_get (List.getElem?_eq_getElem hj)
    rw [ex, ey]
    have := rowsOk_desc h hx hy hij hkj
    have h1 := (h i x hki hx).1
    have h2 := (h j y hkj hy).1
    show y.1.toNat < x.1.toNat
    omega

theorem qof_bits (rows : List (Int × Int)) (k : Nat) : qbits (qof rows k) = 0 := by
  unfold qof
  induction (rows.take k) with
  | nil => rfl
  | cons x l ih => rw [List.map_cons]; unfold qbits; rw [if_pos (show (toQR x).l = [] from rfl), ih]

theorem qfind_snoc (qs : List QR) (r : QR) (p : Int) : qfind (qs ++ [r]) p = match qfind qs p with
    | some i => some i
    | none => if (r.prio : Int) = p then some qs.length else none := by
  unfold qfind
  rw [List.findIdx?_append]
  cases List.findIdx? (fun r => (r.prio : Int) == p) qs with
  | some i => rfl
  | none =>
    simp only [List.findIdx?_cons, List.findIdx?_nil, Option.map_none]
    by_cases h : (r.prio : Int) = p
    · simp [h]
    · have : ((r.prio : Int) == p) = false := by simpa using h
      simp [this, h]

/-- A row more. -/
theorem QAtB.snoc {w w' : World} {b : Nat} {pp qq : Nat → Nat} {qs : List QR} {bits : Nat} (h : QAtB m w b pp qq qs bits) {r : QR} {p' q' : Nat} (hk : Kept [] w w') (hr : RingAt w' p' q' r) (hp : w.heap.size ≤ p') (hq : w.heap.size ≤ q')
    (hwf : QWf (qs ++ [r])) : QAtB m (w'.setCell ⟨b, 1 + r.prio, none⟩ (.pointer (some ⟨p', 0, none⟩))) b (fun j => if j = qs.length then p' else pp j) (fun j => if j = qs.length then q' else qq j) (qs ++ [r]) bits := by
  have hb := h.row.lt
  have hrp : r.prio < 64 := by have := (hwf.r r (by simp)).p; omega
  have hno : qfind qs r.prio = none := by
    cases hf : qfind qs r.prio with
    | none => rfl
    | some i =>
      obtain ⟨s, h1, h2⟩ := qfind_some hf
      have hl := (List.getElem?_eq_some_iff.1 h1).1
      have := hwf.lt (i := i) (j := qs.length) (a := s) (b := r) (by rw [List.getElem?_append_left hl]; exact h1) (by rw [List.getElem?_append_right (Nat.le_refl _)]; simp) hl
      omega
  have hk2 : Kept [b] w (w'.setCell ⟨b, 1 + r.prio, none⟩ (.pointer (some ⟨p', 0, none⟩))) := (hk.mono (by simp)).setCell (by simp) _
  have hring : ∀ i s, qs[i]? = some s → RingAt w (pp i) (qq i) s ∧ pp i < w.heap.size ∧ qq i < w.heap.size ∧ pp i ≠ b ∧ qq i ≠ b := fun i s hi => by
    have h1 := h.ring i s hi
    have h2 := h.d1 i (List.getElem?_eq_some_iff.1 hi).1
    exact ⟨h1, h1.lt.1, h1.lt.2, h2⟩
  have hget : ∀ i s, (qs ++ [r])[i]? = some s → (i < qs.length ∧ qs[i]? = some s) ∨ (i = qs.length ∧ s = r) := by
    intro i s hi
    by_cases hl : i < qs.length
    · rw [List.getElem?_append_left hl] at hi; exact .inl ⟨hl, hi⟩
    · rw [List.getElem?_append_right (by omega)] at hi
      have : i - qs.length = 0 := by
        have := (List.getElem?_eq_some_iff.1 hi).1
        simp at this
        omega
      rw [this] at hi
      simp at hi
      exact .inr ⟨by omega, hi.symm⟩
  refine ⟨?_, fun i s hi => ?_, fun i hi => ?_, fun i j hi hj hne => ?_, hwf⟩
  · have hset := (h.row.kept hk (by simp)).set (1 + r.prio) (.pointer (some ⟨p', 0, none⟩))
    unfold qcells at hset ⊢
    rw [Nat.add_comm 1 r.prio, List.set_cons_succ, List.set_append_left _ _ (by rw [ringsOf_len]; omega)] at hset
    have e : (ringsOf pp qs).set r.prio (.pointer (some ⟨p', 0, none⟩)) = ringsOf (fun j => if j = qs.length then p' else pp j) (qs ++ [r]) := by
      apply List.ext_getElem?
      intro j
      by_cases hj : j < 64
      · rw [ringsOf_get _ _ _ hj, qfind_snoc]
        by_cases e : r.prio = j
        · subst e
          rw [List.getElem?_set_self (by rw [ringsOf_len]; omega), hno]
          simp
        · rw [List.getElem?_set_ne e, ringsOf_get _ _ _ hj]
          cases hf : qfind qs j with
          | none => simp; omega
          | some i =>
            obtain ⟨s, h1, _⟩ := qfind_some hf
            have hl := (List.getElem?_eq_some_iff.1 h1).1
            have : i ≠ qs.length := by omega
            simp [this]
      · rw [List.getElem?_eq_none (by rw [List.length_set, ringsOf_len]; omega), List.getElem?_eq_none (by rw [ringsOf_len]; omega)]
    rw [← e, Nat.add_comm r.prio 1] at *
    rw [Nat.add_comm 1 r.prio]
    rw [Nat.add_comm 1 r.prio] at hset
    exact hset
  · rcases hget i s hi with ⟨hl, h1⟩ | ⟨rfl, rfl⟩
    · have := hring i s h1
      have hne : i ≠ qs.length := by omega
      simp only [hne, if_false]
      exact this.1.kept hk2 (by simp; omega) (by simp; omega)
    · simp only [if_true]
      exact hr.kept ((Kept.refl [b] _).setCell (by simp) _) (by simp; omega) (by simp; omega)
  · obtain ⟨s, hs⟩ : ∃ s, (qs ++ [r])[i]? = some s := ⟨_, List.getElem?_eq_getElem hi⟩
    rcases hget i s hs with ⟨hl, h1⟩ | ⟨rfl, rfl⟩
    · have := hring i s h1
      have hne : i ≠ qs.length := by omega
      simp only [hne, if_false]
      omega
    · simp only [if_true]; omega
  · obtain ⟨s, hs⟩ : ∃ s, (qs ++ [r])[i]? = some s := ⟨_, List.getElem?_eq_getElem hi⟩
    obtain ⟨t, ht⟩ : ∃ t, (qs ++ [r])[j]? = some t := ⟨_, List.getElem?_eq_getElem hj⟩
    rcases hget i s hs with ⟨hl, h1⟩ | ⟨rfl, rfl⟩
    · have h3 := hring i s h1
      have hne2 : i ≠ qs.length := by omega
      rcases hget j t ht with ⟨hl2, h2⟩ | ⟨rfl, rfl⟩
      · have hne3 : j ≠ qs.length := by omega
        simp only [hne2, hne3, if_false]
        exact h.d2 i j hl hl2 hne
      · simp only [hne2, if_false, if_true]
        omega
    · rcases hget j t ht with ⟨hl2, h2⟩ | ⟨rfl, rfl⟩
      · have h3 := hring j t h2
        have hne3 : j ≠ qs.length := by omega
        simp only [hne3, if_false, if_true]
        omega
      · omega

end Go.Proofs.Ytopgfhcgfpceaaa
