/- Queues as plain data: all ids, priority by priority from the greatest. -/
import Derived.Test.YtopgfhcgfpceaaaQs
namespace Go.Proofs.Ytopgfhcgfpceaaa

/-- The ids of the k greatest priorities. -/
def qdown (qs : List QR) (k : Nat) : List (Int × Int) := (List.range k).flatMap fun (j : Nat) => (qring qs (63 - (j : Int))).map fun x => (63 - (j : Int), x)

theorem qdown_succ (qs : List QR) (k : Nat) : qdown qs (k + 1) = qdown qs k ++ (qring qs (63 - (k : Int))).map fun x => (63 - (k : Int), x) := by
  unfold qdown
  rw [List.range_succ, List.flatMap_append]
  simp

theorem flat_split {α : Type} (f g : Nat → List α) (c n : Nat) (l : List α) (h1 : ∀ j, j ≠ c → g j = f j) (h2 : ∀ j, j ≤ c → f j = []) (h3 : g c = l) (hn : c < n) : (List.range n).flatMap g = l ++ (List.range n).flatMap f := by
  have hz : ∀ m, m ≤ c + 1 → (List.range m).flatMap f = [] := by
    intro m hm
    rw [List.flatMap_eq_nil_iff]
    intro j hj
    rw [List.mem_range] at hj
    exact h2 j (by omega)
  induction n with
  | zero => omega
  | succ n ih =>
    rw [List.range_succ, List.flatMap_append, List.flatMap_append]
    by_cases e : n = c
    · subst e
      have h4 : (List.range n).flatMap g = [] := by
        rw [List.flatMap_eq_nil_iff]
        intro j hj
        rw [List.mem_range] at hj
        rw [h1 j (by omega), h2 j (by omega)]
      rw [h4, hz n (by omega)]
      simp [h3, h2]
    · rw [ih (by omega), List.append_assoc]
      congr 2
      simp [h1 n e]

theorem qdown_all {qs : List QR} (h : QWf qs) : qdown qs 64 = qall qs := by
  induction qs with
  | nil =>
    show (List.range 64).flatMap (fun _ => []) = []
    exact List.flatMap_eq_nil_iff.2 fun _ _ => rfl
  | cons r qs ih =>
    have hr := (h.r r List.mem_cons_self).p
    have hf := h.f
    rw [List.pairwise_cons] at hf
    have h' : QWf qs := ⟨fun x hx => h.r x (List.mem_cons_of_mem _ hx), hf.2⟩
    have ih := ih h'
    unfold qdown at ih ⊢
    have e : qall (r :: qs) = (r.l.map fun x => ((r.prio : Int), x)) ++ qall qs := by unfold qall; rw [List.flatMap_cons]
    rw [e, ← ih]
    refine flat_split _ _ (63 - r.prio) 64 _ (fun j hj => ?_) (fun j hj => ?_) ?_ (by omega)
    · rw [qring_cons, if_neg (by omega)]
    · rw [qring_none fun x hx => by have := hf.1 x hx; omega]
      rfl
    · rw [qring_cons, if_pos (by omega)]
      have : (63 : Int) - ((63 - r.prio : Nat) : Int) = r.prio := by omega
      rw [this]

theorem qdown_len {qs : List QR} (h : QWf qs) (k : Nat) (hk : k ≤ 64) : (qdown qs k).length ≤ k * 65536 := by
  induction k with
  | zero => simp [qdown]
  | succ k ih =>
    rw [qdown_succ, List.length_append, List.length_map]
    have := ih (by omega)
    have := qring_len h (63 - (k : Int))
    omega
end Go.Proofs.Ytopgfhcgfpceaaa
