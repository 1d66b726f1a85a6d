/- The walk of package ready: Copy. -/
import Derived.Test.YtopgfhcgfpceaaaQmF
namespace Go.Proofs.Ytopgfhcgfpceaaa
open Go.RowKit

variable {m : Bool}

/-- The pointers to the rings below a priority. -/
def ringsTo (pp : Nat → Nat) (qs : List QR) (k : Nat) : List Value := (List.range 64).map fun (j : Nat) => if j < k then .pointer (qptr pp qs j) else .pointer none

theorem ringsTo_len (pp : Nat → Nat) (qs : List QR) (k : Nat) : (ringsTo pp qs k).length = 64 := by simp [ringsTo]

theorem ringsTo_get (pp : Nat → Nat) (qs : List QR) (k j : Nat) (h : j < 64) : (ringsTo pp qs k)[j]? = some (if j < k then .pointer (qptr pp qs j) else .pointer none) := by
  unfold ringsTo
  rw [List.getElem?_map, List.getElem?_range h]
  rfl

theorem ringsTo_all (pp : Nat → Nat) (qs : List QR) : ringsTo pp qs 64 = ringsOf pp qs := by
  unfold ringsTo ringsOf
  apply List.map_congr_left
  intro j hj
  rw [if_pos (by simpa using hj)]
  rfl

/-- A copy under way: the rings below priority k are there. -/
structure QPart (B : Nat) (w : World) (b : Nat) (pp qq : Nat → Nat) (qs : List QR) (bits k : Nat) : Prop where
  row : Row w b 93 (.bool true :: (ringsTo pp qs k ++ [.int .u64 bits]))
  ring : ∀ i r, qs[i]? = some r → r.prio < k → RingAt w (pp i) (qq i) r ∧ B ≤ pp i ∧ B ≤ qq i ∧ pp i ≠ b ∧ qq i ≠ b
  d2 : ∀ i j r s, qs[i]? = some r → qs[j]? = some s → r.prio < k → s.prio < k → i ≠ j → pp i ≠ pp j ∧ pp i ≠ qq j ∧ qq i ≠ qq j

theorem QPart.done {B : Nat} {w : World} {b : Nat} {pp qq : Nat → Nat} {qs : List QR} {bits : Nat} (hw : QWf qs) (h : QPart B w b pp qq qs bits 64) (hb : B ≤ b) : QAtB true w b pp qq qs bits ∧ ∀ x ∈ qfoot b pp qq qs.length, B ≤ x ∧ x < w.heap.size := by
  have hg : ∀ i (hi : i < qs.length), qs[i]? = some qs[i] := fun i hi => List.getElem?_eq_getElem hi
  have hp : ∀ i (hi : i < qs.length), qs[i].prio < 64 := fun i hi => by have := (hw.row (hg i hi)).p; omega
  refine ⟨⟨?_, fun i r hi => (h.ring i r hi (by have := (hw.row hi).p; omega)).1, fun i hi => ?_, fun i j hi hj hne => h.d2 i j _ _ (hg i hi) (hg j hj) (hp i hi) (hp j hj) hne, hw⟩, fun x hx => ?_⟩
  · have := h.row
    rw [ringsTo_all] at this
    exact this
  · have := h.ring i _ (hg i hi) (hp i hi)
    exact ⟨this.2.2.2.1, this.2.2.2.2⟩
  · rcases mem_qfoot.1 hx with rfl | ⟨j, hj, hx⟩
    · exact ⟨hb, h.row.lt⟩
    · have := h.ring j _ (hg j hj) (hp j hj)
      have h2 := this.1.lt
      rcases hx with rfl | rfl
      · exact ⟨this.2.1, h2.1⟩
      · exact ⟨this.2.2.1, h2.2⟩

/-- The next ring has been copied. -/
def QNext (B : Nat) (w : World) (b : Nat) (qs : List QR) (bits k : Nat) (e : Ending) (w' : World) : Prop :=
  ∃ a, e = .returned (.pointer a) ∧ Kept [] w w' ∧ (∃ pp qq, QPart B (w'.setCell ⟨b, 1 + k, none⟩ (.pointer a)) b pp qq qs bits (k + 1)) ∧ w'.cell? ⟨b, 1 + k, none⟩ = some (.pointer none) ∧ w'.frozen? ⟨b, 1 + k, none⟩ = false

theorem qpart_cell {B : Nat} {w : World} {b : Nat} {pp qq : Nat → Nat} {qs : List QR} {bits k : Nat} (h : QPart B w b pp qq qs bits k) (hk : k < 64) : w.cell? ⟨b, 1 + k, none⟩ = some (.pointer none) := h.row.cell (by
  rw [Nat.add_comm 1 k, List.getElem?_cons_succ, List.getElem?_append_left (by rw [ringsTo_len]; omega), ringsTo_get _ _ _ _ hk, if_neg (by omega)])

theorem ringsTo_set (pp pp' : Nat → Nat) (qs : List QR) (k : Nat) (hk : k < 64) (hpp : ∀ i r, qs[i]? = some r → r.prio < k → pp' i = pp i) (bits : Value) :
    (Value.bool true :: (ringsTo pp qs k ++ [bits])).set (1 + k) (.pointer (qptr pp' qs k)) = .bool true :: (ringsTo pp' qs (k + 1) ++ [bits]) := by
  rw [Nat.add_comm 1 k, List.set_cons_succ, List.set_append_left _ _ (by rw [ringsTo_len]; omega)]
  congr 2
  apply List.ext_getElem?
  intro j
  by_cases hj : j < 64
  · by_cases e : k = j
    · subst e
      rw [List.getElem?_set_self (by rw [ringsTo_len]; omega), ringsTo_get _ _ _ _ hk, if_pos (by omega)]
    · rw [List.getElem?_set_ne e, ringsTo_get _ _ _ _ hj, ringsTo_get _ _ _ _ hj]
      by_cases h1 : j < k
      · rw [if_pos h1, if_pos (by omega)]
        unfold qptr
        cases hf : qfind qs j with
        | none => rfl
        | some i =>
          obtain ⟨r, h2, h3⟩ := qfind_some hf
          simp only [Option.map_some]
          rw [hpp i r h2 (by omega)]
      · rw [if_neg h1, if_neg (by omega)]
  · rw [List.getElem?_eq_none (by rw [List.length_set, ringsTo_len]; omega), List.getElem?_eq_none (by rw [ringsTo_len]; omega)]

theorem ring_Copy_any {B : Nat} {w : World} {b c : Nat} {pp qq pp' qq' : Nat → Nat} {qs : List QR} {bits bits' k : Nat} (h : QAtB m w b pp qq qs bits) (hP : QPart B w c pp' qq' qs bits' k) (hk : k < 64) (hB : B ≤ w.heap.size) :
    Calls Try.prog 130 #[.pointer (qptr pp qs k)] w (QNext B w c qs bits' k) := by
  have hc := qpart_cell hP hk
  unfold qptr
  cases hf : qfind qs k with
  | none =>
    refine (rg_Copy_nil w).mono ?_
    rintro e w' ⟨rfl, rfl⟩
    refine ⟨none, rfl, Kept.refl _ _, ⟨pp', qq', ?_⟩, hc, hP.row.free _⟩
    have hnk : ∀ r ∈ qs, r.prio ≠ k := fun r hr => by have := qfind_none hf r hr; omega
    have hlt : ∀ (i : Nat) (r : QR), qs[i]? = some r → r.prio < k + 1 → r.prio < k := fun i r hi hp => by have := hnk r (List.mem_of_getElem? hi); omega
    have hset := hP.row.set (1 + k) (.pointer (qptr pp' qs k))
    rw [ringsTo_set pp' pp' qs k hk (fun _ _ _ _ => rfl)] at hset
    have e : qptr pp' qs k = none := by unfold qptr; rw [hf]; rfl
    rw [e] at hset
    refine ⟨hset, fun i r hi hp => ?_, fun i j r s hi hj hp hp2 hne => hP.d2 i j r s hi hj (hlt i r hi hp) (hlt j s hj hp2) hne⟩
    have := hP.ring i r hi (hlt i r hi hp)
    exact ⟨this.1.kept ((Kept.refl [c] _).setCell (by simp) _) (by simp; omega) (by simp; omega), this.2⟩
  | some i =>
    obtain ⟨r, hi, hp⟩ := qfind_some hf
    obtain ⟨g, h1, h2, h3, h4, h5⟩ := h.ring i r hi
    refine (rg_Copy w _ _ g h1).mono ?_
    rintro e w' ⟨rfl, ⟨q', h6, h7⟩, h8⟩
    obtain ⟨q2, h9, h10⟩ := RingAt.of h7 h2 h3 h4
    have hcw := hP.row.lt
    have hrow := hP.row.kept h8 (by simp)
    refine ⟨_, rfl, h8, ⟨fun j => if j = i then w.heap.size else pp' j, fun j => if j = i then q2 else qq' j, ?_⟩, h8.cell hc (by simp), hrow.free _⟩
    have hset := hrow.set (1 + k) (.pointer (qptr (fun j => if j = i then w.heap.size else pp' j) qs k))
    have hni : ∀ (j : Nat) (s : QR), qs[j]? = some s → s.prio < k → j ≠ i := by
      rintro j s hj hs rfl
      rw [hi] at hj
      injection hj with hj
      subst hj
      omega
    rw [ringsTo_set pp' _ qs k hk (fun j s hj hs => by simp [hni j s hj hs])] at hset
    have e : qptr (fun j => if j = i then w.heap.size else pp' j) qs k = some ⟨w.heap.size, 0, none⟩ := by unfold qptr; rw [hf]; simp
    rw [e] at hset
    have hq2 : w.heap.size ≤ q2 := by omega
    have hcase : ∀ (j : Nat) (s : QR), qs[j]? = some s → s.prio < k + 1 → j ≠ i → s.prio < k := fun j s hj hs hne => by
      have : s.prio ≠ k := fun e => hne (h.wf.inj hj hi (by omega))
      omega
    refine ⟨hset, fun j s hj hs => ?_, fun j l s t hj hl hs ht hne => ?_⟩
    · by_cases e : j = i
      · subst e
        rw [hi] at hj
        injection hj with hj
        subst hj
        simp only [if_true]
        exact ⟨h10.kept ((Kept.refl [c] _).setCell (by simp) _) (by simp; omega) (by simp; omega), hB, by omega, by omega, by omega⟩
      · simp only [e, if_false]
        have := hP.ring j s hj (hcase j s hj hs e)
        exact ⟨(this.1.kept h8 (by simp) (by simp)).kept ((Kept.refl [c] _).setCell (by simp) _) (by simp; omega) (by simp; omega), this.2⟩
    · by_cases e : j = i
      · subst e
        have e2 : l ≠ j := Ne.symm hne
        have := (hP.ring l t hl (hcase l t hl ht e2)).1.lt
        simp only [if_true, e2, if_false]
        omega
      · by_cases e2 : l = i
        · subst e2
          have := (hP.ring j s hj (hcase j s hj hs e)).1.lt
          simp only [if_true, e, if_false]
          omega
        · simp only [e, e2, if_false]
          exact hP.d2 j l s t hj hl (hcase j s hj hs e) (hcase l t hl ht e2) hne
end Go.Proofs.Ytopgfhcgfpceaaa
