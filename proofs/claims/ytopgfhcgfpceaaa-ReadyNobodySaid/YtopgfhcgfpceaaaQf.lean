/- Queues as plain data: what is put in by Tail is taken by falling priority; nothing of the program in sight. -/
import Derived.Test.YtopgfhcgfpceaaaQp
namespace Go.Proofs.Ytopgfhcgfpceaaa

/-- The ids of a priority, in their order. -/
def idsOf (ins : List (Int × Int)) (p : Int) : List Int := (ins.filter fun x => x.1 == p).map (·.2)

theorem idsOf_snoc (ins : List (Int × Int)) (x : Int × Int) (p : Int) : idsOf (ins ++ [x]) p = if x.1 = p then idsOf ins p ++ [x.2] else idsOf ins p := by
  unfold idsOf
  rw [List.filter_append]
  by_cases h : x.1 = p
  · simp [h]
  · simp [h]

theorem idsOf_cons (ins : List (Int × Int)) (x : Int × Int) (p : Int) : idsOf (x :: ins) p = if x.1 = p then x.2 :: idsOf ins p else idsOf ins p := by
  unfold idsOf
  by_cases h : x.1 = p
  · simp [h]
  · simp [h]

/-- Each row holds what was put in under its priority. -/
structure FIn (qs : List QR) (ins : List (Int × Int)) : Prop where
  wf : QWf qs
  l : ∀ r ∈ qs, r.l = idsOf ins r.prio
  p : ∀ x ∈ ins, ∃ r ∈ qs, (r.prio : Int) = x.1

theorem FIn.put {qs : List QR} {ins : List (Int × Int)} (h : FIn qs ins) (p id : Int) : FIn (qput false qs p id).2 (if (qput false qs p id).1 = 0 then ins ++ [(p, id)] else ins) := by
  cases hf : qfind qs p with
  | none => rw [qput_none hf]; exact h
  | some i =>
    obtain ⟨r, hi, hp⟩ := qfind_some hf
    by_cases hc : r.cap ≤ r.l.length
    · rw [qput_full hf hi hc]; exact h
    · rw [qput_some hf hi (by omega), if_pos rfl]
      have hl := (List.getElem?_eq_some_iff.1 hi).1
      refine ⟨h.wf.set hi rfl (QR.put_wf (h.wf.row hi) (by omega)), fun x hx => ?_, fun x hx => ?_⟩
      · rw [idsOf_snoc]
        obtain ⟨j, hj⟩ := List.mem_iff_getElem?.1 hx
        by_cases e : i = j
        · subst e
          rw [List.getElem?_set_self hl] at hj
          injection hj with hj
          subst hj
          show r.l ++ [id] = _
          rw [if_pos (show p = ((r.put false id).prio : Int) from hp.symm), h.l r (List.mem_of_getElem? hi)]
          rfl
        · rw [List.getElem?_set_ne e] at hj
          rw [if_neg, h.l x (List.mem_of_getElem? hj)]
          intro e2
          exact e (h.wf.inj hi hj (by have e2 : p = (x.prio : Int) := e2; omega))
      · rcases List.mem_append.1 hx with h1 | h1
        · obtain ⟨s, hs, e⟩ := h.p x h1
          obtain ⟨j, hj⟩ := List.mem_iff_getElem?.1 hs
          by_cases e2 : i = j
          · subst e2
            rw [hi] at hj
            injection hj with hj
            subst hj
            exact ⟨_, List.mem_iff_getElem?.2 ⟨i, List.getElem?_set_self hl⟩, e⟩
          · exact ⟨s, List.mem_iff_getElem?.2 ⟨j, by rw [List.getElem?_set_ne e2]; exact hj⟩, e⟩
        · simp at h1
          subst h1
          exact ⟨_, List.mem_iff_getElem?.2 ⟨i, List.getElem?_set_self hl⟩, hp⟩

/-- Rows above p are empty, the row of p holds what is still to come of it, those below hold all. -/
structure FOut (qs : List QR) (ins rest : List (Int × Int)) (p : Int) : Prop where
  wf : QWf qs
  l : ∀ r ∈ qs, r.l = if p < r.prio then [] else if (r.prio : Int) = p then idsOf rest r.prio else idsOf ins r.prio
  p : ∀ x ∈ ins, ∃ r ∈ qs, (r.prio : Int) = x.1
  s : ∀ x ∈ rest, x ∈ ins

theorem FIn.out {qs : List QR} {ins : List (Int × Int)} (h : FIn qs ins) : FOut qs ins ins 63 := by
  refine ⟨h.wf, fun r hr => ?_, h.p, fun x hx => hx⟩
  rw [h.l r hr, if_neg]
  · split <;> rfl
  · have := (h.wf.r r hr).p; omega

theorem FOut.skip {qs : List QR} {ins rest : List (Int × Int)} {p : Int} {x : Int × Int} (h : FOut qs ins (x :: rest) p) (hx : x.1 ≠ p) : FOut qs ins rest p := by
  refine ⟨h.wf, fun r hr => ?_, h.p, fun y hy => h.s y (List.mem_cons_of_mem _ hy)⟩
  rw [h.l r hr, idsOf_cons]
  by_cases h1 : p < r.prio
  · rw [if_pos h1, if_pos h1]
  · rw [if_neg h1, if_neg h1]
    by_cases h2 : (r.prio : Int) = p
    · rw [if_pos h2, if_pos h2, if_neg (by rw [h2]; exact hx)]
    · rw [if_neg h2, if_neg h2]

theorem FOut.take {qs : List QR} {ins rest : List (Int × Int)} {p : Int} {x : Int × Int} (h : FOut qs ins (x :: rest) p) (hx : x.1 = p) : (qtake qs).1 = (x.1, x.2, 0) ∧ FOut (qtake qs).2 ins rest p := by
  obtain ⟨r, hr, hp⟩ := h.p x (h.s x List.mem_cons_self)
  obtain ⟨i, hi⟩ := List.mem_iff_getElem?.1 hr
  have hl := (List.getElem?_eq_some_iff.1 hi).1
  have hrl : r.l = x.2 :: idsOf rest r.prio := by
    rw [h.l r hr, if_neg (by omega), if_pos (by omega), idsOf_cons, if_pos (by omega)]
  have ht : qtop qs = some i := by
    unfold qtop
    rw [List.findIdx?_eq_some_iff_getElem]
    obtain ⟨hl, rfl⟩ := List.getElem?_eq_some_iff.1 hi
    refine ⟨hl, by rw [hrl]; rfl, fun j hj => ?_⟩
    have h1 : qs[j]? = some qs[j] := List.getElem?_eq_getElem (by omega)
    have h2 := h.wf.lt h1 hi hj
    rw [h.l _ (List.mem_of_getElem? h1), if_pos (by omega)]
    simp
  rw [qtake_some ht hi]
  refine ⟨by rw [hrl, hp]; rfl, h.wf.set hi rfl (QR.rest_wf (h.wf.row hi)), fun s hs => ?_, fun y hy => ?_, fun y hy => h.s y (List.mem_cons_of_mem _ hy)⟩
  · obtain ⟨j, hj⟩ := List.mem_iff_getElem?.1 hs
    by_cases e : i = j
    · subst e
      rw [List.getElem?_set_self hl] at hj
      injection hj with hj
      subst hj
      show r.l.tail = _
      have e1 : (r.rest.prio : Int) = p := by rw [← hx]; exact hp
      rw [if_neg (by omega), if_pos e1, hrl]
      rfl
    · rw [List.getElem?_set_ne e] at hj
      have hne : (s.prio : Int) ≠ p := fun e2 => e (h.wf.inj hi hj (by omega))
      rw [h.l s (List.mem_of_getElem? hj), if_neg hne, if_neg hne]
  · obtain ⟨s, hs, e⟩ := h.p y hy
    obtain ⟨j, hj⟩ := List.mem_iff_getElem?.1 hs
    by_cases e2 : i = j
    · subst e2
      rw [hi] at hj
      injection hj with hj
      subst hj
      exact ⟨_, List.mem_iff_getElem?.2 ⟨i, List.getElem?_set_self hl⟩, e⟩
    · exact ⟨s, List.mem_iff_getElem?.2 ⟨j, by rw [List.getElem?_set_ne e2]; exact hj⟩, e⟩

/-- The next priority. -/
theorem FOut.next {qs : List QR} {ins : List (Int × Int)} {p : Int} (h : FOut qs ins [] p) : FOut qs ins ins (p - 1) := by
  refine ⟨h.wf, fun r hr => ?_, h.p, fun x hx => hx⟩
  rw [h.l r hr]
  by_cases h1 : p < r.prio
  · rw [if_pos h1, if_pos (by omega)]
  · rw [if_neg h1]
    by_cases h2 : (r.prio : Int) = p
    · rw [if_pos h2, if_pos (by omega)]; rfl
    · rw [if_neg h2, if_neg (by omega)]
      split <;> rfl

/-- Behind all: nothing is left. -/
theorem FOut.done {qs : List QR} {ins rest : List (Int × Int)} (h : FOut qs ins rest (-1)) : qtop qs = none := by
  unfold qtop
  rw [List.findIdx?_eq_none_iff]
  intro r hr
  rw [h.l r hr, if_pos (by omega)]
  rfl

/-- Head of what Take gave leaves all as it was. -/
theorem qtake_head {qs : List QR} {i : Nat} {r : QR} (h : QWf qs) (ht : qtop qs = some i) (hi : qs[i]? = some r) : qput true (qs.set i r.rest) r.prio (r.l.headD 0) = (0, qs) := by
  obtain ⟨r', x, xs, h1, h2, h3⟩ := qtop_some ht
  rw [hi] at h1
  injection h1 with h1
  subst h1
  have hl := (List.getElem?_eq_some_iff.1 hi).1
  have hw := h.row hi
  have a1 := hw.h
  have a2 := hw.h2
  rw [h2] at a1
  simp at a1
  have hi' : (qs.set i r.rest)[i]? = some r.rest := List.getElem?_set_self hl
  have e1 : r.rest.l = xs := by show r.l.tail = xs; rw [h2]; rfl
  have e2 : r.rest.cap = r.cap := rfl
  rw [qput_some (i := i) (r := r.rest) (by rw [qfind_set (r' := r.rest) hi rfl]; exact h.find hi) hi' (by rw [e1, e2]; omega)]
  rw [List.set_set]
  have e : QR.put true r.rest (r.l.headD 0) = r := by
    obtain ⟨pr, cp, l, hg⟩ := r
    simp only at h2 a1
    subst h2
    simp [QR.put, QR.rest]
    omega
  rw [e]
  obtain ⟨hl, rfl⟩ := List.getElem?_eq_some_iff.1 hi
  rw [List.set_getElem_self]

end Go.Proofs.Ytopgfhcgfpceaaa
