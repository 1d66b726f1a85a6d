/- Queues in memory: where the rings of a queue stand. -/
import Derived.Test.YtopgfhcgfpceaaaQs
import Derived.Test.YtopgfhcgfpceaaaRngK
namespace Go.Proofs.Ytopgfhcgfpceaaa
open Go.RowKit

variable {m : Bool}

/-- A ring that holds what a row says. -/
def RingAt (w : World) (p q : Nat) (r : QR) : Prop := ∃ g : Rg, RgAt w p q g ∧ g.room = r.cap ∧ g.items = r.l ∧ g.high = r.high ∧ q < w.heap.size

theorem RgAt.lt {w : World} {p q : Nat} {g : Rg} (h : RgAt w p q g) : p < w.heap.size := by
  obtain ⟨⟨a, cap, tail, hx⟩, _⟩ := h
  exact hx.1.lt

theorem RingAt.lt {w : World} {p q : Nat} {r : QR} (h : RingAt w p q r) : p < w.heap.size ∧ q < w.heap.size := by
  obtain ⟨g, h1, _, _, _, h5⟩ := h
  exact ⟨h1.lt, h5⟩

theorem RingAt.kept {w w' : World} {p q : Nat} {r : QR} {S : List Nat} (h : RingAt w p q r) (hk : Kept S w w') (hp : p ∉ S) (hq : q ∉ S) : RingAt w' p q r := by
  obtain ⟨g, h1, h2, h3, h4, h5⟩ := h
  exact ⟨g, h1.kept hk hp hq, h2, h3, h4, Nat.lt_of_lt_of_le h5 hk.size⟩

theorem RingAt.of {w : World} {p q : Nat} {g : Rg} {r : QR} (h : RgAt w p q g) (h2 : g.room = r.cap) (h3 : g.items = r.l) (h4 : g.high = r.high) : ∃ q', (q' = q ∨ q' = p) ∧ RingAt w p q' r := by
  obtain ⟨q', h5, h6, h7⟩ := h.near
  exact ⟨q', h5, g, h7, h2, h3, h4, h6⟩

/-- The pointers to the rings. -/
def ringsOf (pp : Nat → Nat) (qs : List QR) : List Value := (List.range 64).map fun (k : Nat) => .pointer ((qfind qs k).map fun i => ⟨pp i, 0, none⟩)

theorem ringsOf_get (pp : Nat → Nat) (qs : List QR) (k : Nat) (h : k < 64) : (ringsOf pp qs)[k]? = some (.pointer ((qfind qs k).map fun i => ⟨pp i, 0, none⟩)) := by
  unfold ringsOf
  rw [List.getElem?_map, List.getElem?_range h]
  rfl

theorem ringsOf_len (pp : Nat → Nat) (qs : List QR) : (ringsOf pp qs).length = 64 := by simp [ringsOf]

/-- A queue's cells. -/
def qcells (m : Bool) (pp : Nat → Nat) (qs : List QR) (bits : Nat) : List Value := .bool m :: (ringsOf pp qs ++ [.int .u64 bits])

/-- A queue in memory, with these bits. -/
structure QAtB (m : Bool) (w : World) (b : Nat) (pp qq : Nat → Nat) (qs : List QR) (bits : Nat) : Prop where
  row : Row w b 93 (qcells m pp qs bits)
  ring : ∀ i r, qs[i]? = some r → RingAt w (pp i) (qq i) r
  d1 : ∀ i, i < qs.length → pp i ≠ b ∧ qq i ≠ b
  d2 : ∀ i j, i < qs.length → j < qs.length → i ≠ j → pp i ≠ pp j ∧ pp i ≠ qq j ∧ qq i ≠ qq j
  wf : QWf qs

/-- The blocks of a queue. -/
def qfoot (b : Nat) (pp qq : Nat → Nat) (n : Nat) : List Nat := b :: (List.range n).flatMap fun i => [pp i, qq i]

theorem mem_qfoot {b : Nat} {pp qq : Nat → Nat} {n x : Nat} : x ∈ qfoot b pp qq n ↔ x = b ∨ ∃ i, i < n ∧ (x = pp i ∨ x = qq i) := by
  unfold qfoot
  simp only [List.mem_cons, List.mem_flatMap, List.mem_range, List.not_mem_nil, or_false]

/-- A queue whose blocks are among F. -/
def QS (w : World) (F : List Nat) (b : Nat) (qs : List QR) : Prop := (∃ pp qq, QAtB true w b pp qq qs (qbits qs) ∧ ∀ x ∈ qfoot b pp qq qs.length, x ∈ F) ∧ ∀ x ∈ F, x < w.heap.size

/-- What a call on a queue leaves. -/
def QStep (w : World) (F : List Nat) (b : Nat) (qs : List QR) (w' : World) : Prop := Kept F w w' ∧ ∃ F', QS w' F' b qs ∧ ∀ x ∈ F', x ∈ F ∨ w.heap.size ≤ x

theorem QAtB.kept {w w' : World} {b : Nat} {pp qq : Nat → Nat} {qs : List QR} {bits : Nat} {S : List Nat} (h : QAtB m w b pp qq qs bits) (hk : Kept S w w') (hS : ∀ x ∈ qfoot b pp qq qs.length, x ∉ S) : QAtB m w' b pp qq qs bits := by
  refine ⟨h.row.kept hk (hS b (mem_qfoot.2 (.inl rfl))), fun i r hi => ?_, h.d1, h.d2, h.wf⟩
  have hl := (List.getElem?_eq_some_iff.1 hi).1
  exact (h.ring i r hi).kept hk (hS _ (mem_qfoot.2 (.inr ⟨i, hl, .inl rfl⟩))) (hS _ (mem_qfoot.2 (.inr ⟨i, hl, .inr rfl⟩)))

theorem QS.kept {w w' : World} {F S : List Nat} {b : Nat} {qs : List QR} (h : QS w F b qs) (hk : Kept S w w') (hS : ∀ x ∈ F, x ∉ S) : QS w' F b qs := by
  obtain ⟨⟨pp, qq, h1, h2⟩, h3⟩ := h
  exact ⟨⟨pp, qq, h1.kept hk fun x hx => hS x (h2 x hx), h2⟩, fun x hx => Nat.lt_of_lt_of_le (h3 x hx) hk.size⟩

theorem QS.wf {w : World} {F : List Nat} {b : Nat} {qs : List QR} (h : QS w F b qs) : QWf qs := by
  obtain ⟨⟨pp, qq, h1, _⟩, _⟩ := h
  exact h1.wf

theorem QS.step {w w' : World} {F : List Nat} {b : Nat} {qs : List QR} (h : QS w F b qs) (hk : Kept [] w w') : QStep w F b qs w' :=
  ⟨hk.mono (by simp), F, h.kept hk (by simp), fun _ hx => .inl hx⟩

theorem QStep.trans {w w' w2 : World} {F : List Nat} {b : Nat} {qs qs2 : List QR} (h : QStep w F b qs w') (h2 : ∀ F', QS w' F' b qs → QStep w' F' b qs2 w2) : QStep w F b qs2 w2 := by
  obtain ⟨hk, F', h3, h4⟩ := h
  obtain ⟨hk2, F2, h5, h6⟩ := h2 F' h3
  refine ⟨hk.then hk2 h4, F2, h5, fun x hx => ?_⟩
  rcases h6 x hx with h7 | h7
  · exact h4 x h7
  · exact .inr (Nat.le_trans hk.size h7)

/-- Row i has become another row. -/
theorem QAtB.upd {w w' : World} {b : Nat} {pp qq : Nat → Nat} {qs : List QR} {bits : Nat} (h : QAtB m w b pp qq qs bits) {i : Nat} {r r' : QR} {q' : Nat} (hi : qs[i]? = some r) (hp : r'.prio = r.prio) (hwf : r'.wf)
    (hr : RingAt w' (pp i) q' r') (hq : q' = qq i ∨ q' = pp i ∨ w.heap.size ≤ q') (hk : Kept [pp i, qq i] w w') : QAtB m w' b pp (fun j => if j = i then q' else qq j) (qs.set i r') bits := by
  have hl := (List.getElem?_eq_some_iff.1 hi).1
  have hd1 := h.d1 i hl
  refine ⟨?_, fun j s hj => ?_, fun j hj => ?_, fun j k hj hk2 hne => ?_, h.wf.set hi hp hwf⟩
  · have e : ringsOf pp (qs.set i r') = ringsOf pp qs := by
      unfold ringsOf
      apply List.map_congr_left
      intro k _
      rw [qfind_set hi hp]
    unfold qcells
    rw [e]
    exact h.row.kept hk (by simp; omega)
  · by_cases e : j = i
    · subst e
      rw [List.getElem?_set_self hl] at hj
      injection hj with hj
      subst hj
      simpa using hr
    · rw [List.getElem?_set_ne (Ne.symm e)] at hj
      have hjl := (List.getElem?_eq_some_iff.1 hj).1
      have h2 := h.d2 i j hl hjl (Ne.symm e)
      have h3 := h.d2 j i hjl hl e
      simp only [e, if_false]
      exact (h.ring j s hj).kept hk (by simp; omega) (by simp; omega)
  · rw [List.length_set] at hj
    have h2 := h.d1 j hj
    have := h.row.lt
    refine ⟨h2.1, ?_⟩
    by_cases e : j = i
    · subst e; simp only [if_true]; omega
    · simp only [e, if_false]; exact h2.2
  · rw [List.length_set] at hj hk2
    have h2 := h.d2 j k hj hk2 hne
    have h3 := h.d2 k j hk2 hj (Ne.symm hne)
    have hb : ∀ m, m < qs.length → pp m < w.heap.size ∧ qq m < w.heap.size := fun m hm => (h.ring m _ (List.getElem?_eq_getElem hm)).lt
    have hbj := hb j hj
    have hbk := hb k hk2
    have hbi := hb i hl
    refine ⟨h2.1, ?_, ?_⟩
    · by_cases e : k = i
      · subst e; simp only [if_true]; omega
      · simp only [e, if_false]; exact h2.2.1
    · by_cases e : k = i
      · subst e
        have e2 : j ≠ k := hne
        simp only [e2, if_true, if_false]
        omega
      · by_cases e2 : j = i
        · subst e2; simp only [if_true, e, if_false]; omega
        · simp only [e, e2, if_false]; exact h2.2.2

/-- Its bits are set. -/
theorem QAtB.setBits {w : World} {b : Nat} {pp qq : Nat → Nat} {qs : List QR} {bits : Nat} (h : QAtB m w b pp qq qs bits) (bits' : Nat) : QAtB m (w.setCell ⟨b, 65, none⟩ (.int .u64 bits')) b pp qq qs bits' := by
  refine ⟨?_, fun i r hi => ?_, h.d1, h.d2, h.wf⟩
  · have := h.row.set 65 (.int .u64 bits')
    unfold qcells at this ⊢
    rw [List.set_cons_succ, List.set_append_right _ _ (by rw [ringsOf_len]; omega), ringsOf_len] at this
    exact this
  · have hl := (List.getElem?_eq_some_iff.1 hi).1
    have := h.d1 i hl
    exact (h.ring i r hi).kept ((Kept.refl [b] w).setCell (by simp) _) (by simp; omega) (by simp; omega)

theorem QAtB.c0 {w : World} {b : Nat} {pp qq : Nat → Nat} {qs : List QR} {bits : Nat} (h : QAtB m w b pp qq qs bits) : w.cell? ⟨b, 0, none⟩ = some (.bool m) := h.row.cell rfl

theorem QAtB.c65 {w : World} {b : Nat} {pp qq : Nat → Nat} {qs : List QR} {bits : Nat} (h : QAtB m w b pp qq qs bits) : w.cell? ⟨b, 65, none⟩ = some (.int .u64 bits) := h.row.cell (by
  unfold qcells
  rw [List.getElem?_cons_succ, List.getElem?_append_right (by rw [ringsOf_len]; omega), ringsOf_len]
  rfl)

/-- The ring of a priority. -/
def qptr (pp : Nat → Nat) (qs : List QR) (p : Int) : Option Addr := (qfind qs p).map fun i => ⟨pp i, 0, none⟩

theorem QAtB.ck {w : World} {b : Nat} {pp qq : Nat → Nat} {qs : List QR} {bits : Nat} (h : QAtB m w b pp qq qs bits) (k : Nat) (hk : k < 64) : w.cell? ⟨b, 1 + k, none⟩ = some (.pointer (qptr pp qs k)) := h.row.cell (by
  unfold qcells
  rw [Nat.add_comm 1 k, List.getElem?_cons_succ, List.getElem?_append_left (by rw [ringsOf_len]; omega), ringsOf_get _ _ _ hk]
  rfl)

theorem qfind_out {qs : List QR} {p : Int} (h : QWf qs) (hp : p < 0 ∨ 63 < p) : qfind qs p = none := by
  cases hf : qfind qs p with
  | none => rfl
  | some i =>
    obtain ⟨r, h1, h2⟩ := qfind_some hf
    have := (h.row h1).p
    omega

end Go.Proofs.Ytopgfhcgfpceaaa
